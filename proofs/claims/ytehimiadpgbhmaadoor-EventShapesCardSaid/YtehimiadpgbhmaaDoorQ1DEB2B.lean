/-
  Own work, merged: AM2, AM3.
-/
import Derived.AtR
import Derived.Below
import Derived.Laws.AppendOwn
import Derived.Laws.Cells
import Derived.Laws.Entries
import Derived.Laws.Rows
import Derived.Laws.Small
import Derived.Test.YtehimiadpgbhmaaDoorQC722F6
/-
  The abstract machine, second part: the operations that turn nothing: what they give, and that the machine's own give the same. Own work; over any program.
-/
namespace Go.AM

structure TI where
  d : TypeDesc
  size : Nat
  bytes : Nat
  zero : Value

abbrev Tab := List (Nat × TI)

/-- The table says what the program says. -/
def tabOK (P : Program) (T : Tab) : Prop :=
  ∀ t i, lk T t = some i → P.underlying t = some i.d ∧ ∃ x, P.info? t = some x ∧ x.size = i.size ∧ x.bytes = i.bytes ∧ x.zero = some i.zero

theorem tabOK_nil (P : Program) : tabOK P [] := fun _ _ h => by cases h
theorem tabOK_cons {P : Program} {T : Tab} {t : Nat} {i : TI} (h1 : P.underlying t = some i.d) (h2 : (P.info? t).map (fun x => (x.zero, x.size, x.bytes)) = some (some i.zero, i.size, i.bytes))
    (h : tabOK P T) : tabOK P ((t, i) :: T) := by
  intro u j hj
  simp only [lk] at hj
  split at hj
  · rename_i he
    have := Nat.eq_of_beq_eq_true he
    subst this; cases hj
    refine ⟨h1, ?_⟩
    cases hx : P.info? u with
    | none => simp [hx] at h2
    | some x => simp [hx] at h2; exact ⟨x, rfl, h2.2.1, h2.2.2, h2.1⟩
  · exact h u j hj

def Tab.desc (T : Tab) (t : Nat) : Option TypeDesc := match lk T t with | some ⟨d, _, _, _⟩ => some d | none => none
def Tab.size (T : Tab) (t : Nat) : Option Nat := match lk T t with | some ⟨_, s, _, _⟩ => some s | none => none

section
variable {P : Program} {T : Tab} (hT : tabOK P T)
include hT
theorem tab_und {t : Nat} {d : TypeDesc} (h : T.desc t = some d) (w : World) : (underlying t).run P w = .ok d w := by
  unfold Tab.desc at h
  split at h
  · rename_i hi; cases h; exact run_underlying (hT t _ hi).1 w
  · cases h
theorem tab_size {t : Nat} {n : Nat} (h : T.size t = some n) (w : World) : (sizeOf t).run P w = .ok n w := by
  unfold Tab.size at h
  split at h
  · rename_i hi; cases h
    obtain ⟨_, x, hx, hs, _⟩ := hT t _ hi
    simp [sizeOf, typeInfo, hx, hs]
  · cases h
end

/-! ### What a cell holds, by its type -/
/-- A cell of a list, as a number. -/
def intAt (vs : List Value) (j : Nat) : Int := match vs[j]? with | some (.int _ n) => n | _ => 0
def boolAt (vs : List Value) (j : Nat) : Bool := match vs[j]? with | some (.bool b) => b | _ => false
def strAt (vs : List Value) (j : Nat) : ByteArray := match vs[j]? with | some (.string s) => s | _ => ⟨#[]⟩

def slOf : Option Value → Option Addr × Nat × Nat
  | some (.slice p n c) => (p, n, c)
  | _ => (none, 0, 0)
/-- A part of a list of cells, by its type: what must hold, and the value. -/
def partOf (T : Tab) (t : Nat) (vs : List Value) (j : Nat) : Option (Prop × Value) :=
  match lk T t with
  | some ⟨d, sz, _, _⟩ =>
    match d with
    | .int k => some (vs[j]? = some (.int k (intAt vs j)), .int k (intAt vs j))
    | .bool => some (vs[j]? = some (.bool (boolAt vs j)), .bool (boolAt vs j))
    | .string => some (vs[j]? = some (.string (strAt vs j)), .string (strAt vs j))
    | .struct _ => some (j + sz ≤ vs.length, .agg ((vs.drop j).take sz).toArray)
    | .array _ _ => some (j + sz ≤ vs.length, .agg ((vs.drop j).take sz).toArray)
    | .slice _ => some (vs[j]? = some (.slice (slOf vs[j]?).1 (slOf vs[j]?).2.1 (slOf vs[j]?).2.2), .slice (slOf vs[j]?).1 (slOf vs[j]?).2.1 (slOf vs[j]?).2.2)
    | _ => none
  | none => none

/-- The part of a block's contents that holds a known place, and where it begins. -/
def segAt : List Seg → Nat → Nat → Option (Nat × Seg)
  | [], _, _ => none
  | .one x :: r, o, off => match Nat.beq o off with | true => some (o, .one x) | false => segAt r (o + 1) off
  | .vals n vs :: r, o, off => match Nat.blt off (o + n) with | true => some (o, .vals n vs) | false => segAt r (o + n) off

/-- That part replaced. -/
def setSeg : List Seg → Nat → Nat → List Seg → List Seg
  | [], _, _, _ => []
  | .one x :: r, o, off, l => match Nat.beq o off with | true => l ++ r | false => .one x :: setSeg r (o + 1) off l
  | .vals n vs :: r, o, off, l => match Nat.blt off (o + n) with | true => l ++ r | false => .vals n vs :: setSeg r (o + n) off l

theorem concSegs_append {M : Loc} : ∀ (a b : List Seg), concSegs M (a ++ b) = concSegs M a ++ concSegs M b
  | [], b => by simp [concSegs]
  | .one x :: a, b => by simp [concSegs, concSegs_append a b]
  | .vals n vs :: a, b => by simp [concSegs, concSegs_append a b]

theorem segsOK_append : ∀ {a b : List Seg}, segsOK a → segsOK b → segsOK (a ++ b)
  | [], b, _, h => h
  | .one x :: a, b, h, h' => by simp only [List.cons_append, segsOK] at *; exact segsOK_append h h'
  | .vals n vs :: a, b, h, h' => by simp only [List.cons_append, segsOK] at *; exact ⟨h.1, segsOK_append h.2 h'⟩

theorem segAt_cell {M : Loc} : ∀ {segs : List Seg} {o off s0 : Nat} {s : Seg}, segsOK segs → o ≤ off → segAt segs o off = some (s0, s) →
    o ≤ s0 ∧ s0 ≤ off ∧ (∀ x, s = .one x → s0 = off) ∧ (∀ n vs, s = .vals n vs → off < s0 + n ∧ vs.length = n) ∧ ∃ A B, concSegs M segs = A ++ concSegs M [s] ++ B ∧ A.length = s0 - o ∧
      ∀ l, (concSegs M l).length = (concSegs M [s]).length → segsOK l → concSegs M (setSeg segs o off l) = A ++ concSegs M l ++ B ∧ segsOK (setSeg segs o off l)
  | [], o, off, s0, s, _, _, h => by cases h
  | .one x :: r, o, off, s0, s, hok, ho, h => by
    simp only [segAt] at h
    split at h
    · rename_i he
      have e := Nat.eq_of_beq_eq_true he
      subst e; cases h
      refine ⟨Nat.le_refl _, Nat.le_refl _, fun _ _ => rfl, (fun _ _ h => by cases h), [], concSegs M r, by simp [concSegs], by simp, ?_⟩
      intro l hl hlo
      simp only [setSeg, he]
      exact ⟨by simp [concSegs_append], segsOK_append hlo hok⟩
    · rename_i he
      have hne : o ≠ off := fun e => by subst e; simp at he
      obtain ⟨h1, h2, h3, h4, A, B, h5, h6, h7⟩ := segAt_cell (M := M) (segs := r) hok (by omega) h
      refine ⟨by omega, h2, h3, h4, conc M x :: A, B, by simp only [concSegs, h5]; simp, by simp; omega, ?_⟩
      intro l hl hlo
      obtain ⟨h8, h9⟩ := h7 l hl hlo
      simp only [setSeg, he]
      exact ⟨by simp only [concSegs, h8]; simp, h9⟩
  | .vals n vs :: r, o, off, s0, s, hok, ho, h => by
    simp only [segAt] at h
    split at h
    · rename_i he
      cases h
      have he' : off < o + n := by simpa using he
      refine ⟨Nat.le_refl _, ho, (fun _ h => by cases h), (fun _ _ h => by cases h; exact ⟨he', hok.1⟩), [], concSegs M r, by simp [concSegs], by simp, ?_⟩
      intro l hl hlo
      simp only [setSeg, he]
      exact ⟨by simp [concSegs_append], segsOK_append hlo hok.2⟩
    · rename_i he
      have he' : ¬ off < o + n := fun h => by rw [show Nat.blt off (o + n) = true by simpa using h] at he; cases he
      obtain ⟨h1, h2, h3, h4, A, B, h5, h6, h7⟩ := segAt_cell (M := M) (segs := r) hok.2 (by omega) h
      refine ⟨by omega, h2, h3, h4, vs ++ A, B, by simp only [concSegs, h5]; simp, by simp [hok.1]; omega, ?_⟩
      intro l hl hlo
      obtain ⟨h8, h9⟩ := h7 l hl hlo
      simp only [setSeg, he]
      exact ⟨by simp only [concSegs, h8]; simp, hok.1, h9⟩

/-- Is a type held in one cell? -/
def oneCellTy : TypeDesc → Bool
  | .struct _ => false
  | .array _ _ => false
  | _ => true

/-- A list of segments, all known values: a whole struct's. -/
def segsVals : List Seg → Option (List Value)
  | [] => some []
  | .one (.v x) :: r => match segsVals r with | some l => some (x :: l) | none => none
  | .one _ :: _ => none
  | .vals _ vs :: r => match r with
    | [] => some vs
    | _ :: _ => match segsVals r with | some l => some (vs ++ l) | none => none

theorem segsVals_conc {M : Loc} : ∀ {segs : List Seg} {l : List Value}, segsVals segs = some l → concSegs M segs = l
  | [], l, h => by cases h; rfl
  | .one x :: r, l, h => by
    cases x <;> simp only [segsVals] at h <;> try cases h
    split at h
    · rename_i l' hl; cases h; simp [concSegs, segsVals_conc hl, conc]
    · cases h
  | .vals _ vs :: [], l, h => by simp only [segsVals] at h; cases h; simp [concSegs]
  | .vals _ vs :: s :: r, l, h => by
    simp only [segsVals] at h
    split at h
    · rename_i l' hl; cases h; rw [concSegs, segsVals_conc hl]
    · cases h

/-- Cells of the old memory. -/
def extCells (W0 : World) (a : Addr) : Nat → Nat → List Value
  | _, 0 => []
  | j, n + 1 => (match W0.cell? (a.add j) with | some x => x | none => undef) :: extCells W0 a (j + 1) n

theorem extCells_length (W0 : World) (a : Addr) : ∀ (j n : Nat), (extCells W0 a j n).length = n
  | _, 0 => rfl
  | j, n + 1 => by simp [extCells, extCells_length W0 a (j + 1) n]

theorem extCells_get (W0 : World) (a : Addr) : ∀ (n j k : Nat) (u : Value), (extCells W0 a j n)[k]? = some u → (W0.cell? (a.add (j + k))).isSome → W0.cell? (a.add (j + k)) = some u
  | 0, j, k, u, h, _ => by simp [extCells] at h
  | n + 1, j, 0, u, h, hs => by
    simp only [extCells, List.getElem?_cons_zero, Option.some.injEq, Nat.add_zero] at h hs ⊢
    cases hc : W0.cell? (a.add j) with
    | none => simp [hc] at hs
    | some x => simp [hc] at h; rw [h]
  | n + 1, j, k + 1, u, h, hs => by
    simp only [extCells, List.getElem?_cons_succ] at h
    rw [show j + (k + 1) = j + 1 + k by omega] at hs ⊢
    exact extCells_get W0 a n (j + 1) k u h hs

theorem add_block (a : Addr) (j : Nat) : (a.add j).block = a.block := by unfold Addr.add; split <;> rfl

/-- What a load gives. -/
def loadOf (T : Tab) (W0 : World) (S0 : Nat → Prop) (h : List (Nat × Blk)) (t : Nat) : AV → Option (Prop × AV)
  | .ptr id off =>
    match lk h id with
    | some (.cells e segs) =>
      match T.desc t with
      | some d => match oneCellTy d with
        | true => match segAt segs 0 off with
          | some (_, .one x) => some (True, x)
          | some (s0, .vals _ vs) => (match partOf T t vs (off - s0) with | some (p, x) => some (p, .v x) | none => none)
          | none => none
        | false =>
          match Nat.beq e t, Nat.beq off 0 with
          | true, true => match segsVals segs, T.size t with | some l, some sz => some (sz = l.length, .v (.agg l.toArray)) | _, _ => none
          | _, _ => match segAt segs 0 off with | some (s0, .vals _ vs) => (match partOf T t vs (off - s0) with | some (p, x) => some (p, .v x) | none => none) | _ => none
      | none => none
    | _ => none
  | .elt id off j =>
    match lk h id with
    | some (.cells _ segs) => match segAt segs 0 off with
      | some (s0, .vals _ vs) => (match partOf T t vs (off - s0 + j) with | some (p, x) => some (p, .v x) | none => none)
      | _ => none
    | some (.row _ _ _ vs) => (match Nat.beq off 0 with | true => (match partOf T t vs j with | some (p, x) => some (p, .v x) | none => none) | false => none)
    | _ => none
  | .v (.pointer (some a)) =>
    match T.desc t with
    | some (.int k) => some (W0.cell? a = some (.int k (match W0.cell? a with | some (.int _ n) => n | _ => 0)) ∧ ¬ S0 a.block, .v (.int k (match W0.cell? a with | some (.int _ n) => n | _ => 0)))
    | some (.bool) => some (W0.cell? a = some (.bool (match W0.cell? a with | some (.bool b) => b | _ => false)) ∧ ¬ S0 a.block, .v (.bool (match W0.cell? a with | some (.bool b) => b | _ => false)))
    | some (.string) => some (W0.cell? a = some (.string (match W0.cell? a with | some (.string b) => b | _ => ⟨#[]⟩)) ∧ ¬ S0 a.block, .v (.string (match W0.cell? a with | some (.string b) => b | _ => ⟨#[]⟩)))
    | some (.slice _) => some (W0.cell? a = some (.slice (slOf (W0.cell? a)).1 (slOf (W0.cell? a)).2.1 (slOf (W0.cell? a)).2.2) ∧ ¬ S0 a.block, .v (.slice (slOf (W0.cell? a)).1 (slOf (W0.cell? a)).2.1 (slOf (W0.cell? a)).2.2))
    | some (.struct _) => (match T.size t with | some sz => some ((∀ j, j < sz → (W0.cell? (a.add j)).isSome) ∧ ¬ S0 a.block, .v (.agg (extCells W0 a 0 sz).toArray)) | none => none)
    | some (.array _ _) => (match T.size t with | some sz => some ((∀ j, j < sz → (W0.cell? (a.add j)).isSome) ∧ ¬ S0 a.block, .v (.agg (extCells W0 a 0 sz).toArray)) | none => none)
    | _ => none
  | _ => none

/-! ### Loads -/
section
variable {P : Program} {T : Tab} (hT : tabOK P T)
include hT

theorem tab_agg {t : Nat} {i : TI} (h : lk T t = some i) (w : World) : (isAgg t).run P w = .ok (!oneCellTy i.d) w := by
  have hu := run_underlying (hT t i h).1 w
  unfold isAgg
  cases hd : i.d <;> simp [hu, hd, oneCellTy]

theorem tab_size' {t : Nat} {i : TI} (h : lk T t = some i) (w : World) : (sizeOf t).run P w = .ok i.size w := tab_size hT (by simp [Tab.size, h]) w

theorem run_loadVar_one {t : Nat} {i : TI} (h : lk T t = some i) (ho : oneCellTy i.d = true) {w : World} {a : Addr} {v : Value} (hc : w.cell? a = some v) : (loadVar t a).run P w = .ok v w := by
  simp [loadVar, tab_agg hT h, ho, hc]

theorem run_loadVar_agg {t : Nat} {i : TI} (h : lk T t = some i) (ho : oneCellTy i.d = false) {w : World} {b o : Nat} {vs : List Value} {j : Nat} (hj : j + i.size ≤ vs.length)
    (hc : ∀ q x, vs[q]? = some x → w.cell? ⟨b, o + q, none⟩ = some x) : (loadVar t ⟨b, o + j, none⟩).run P w = .ok (.agg ((vs.drop j).take i.size).toArray) w := by
  have hl : ((vs.drop j).take i.size).length = i.size := by simp; omega
  have := run_loadCells_list (P := P) (w := w) ⟨b, o + j, none⟩ ((vs.drop j).take i.size) (fun q v hq => by
    rw [Addr.add_lit]
    rw [List.getElem?_take] at hq
    split at hq
    · rw [List.getElem?_drop] at hq
      have := hc _ _ hq
      rw [show o + j + q = o + (j + q) by omega]; exact this
    · cases hq)
  rw [hl] at this
  simp [loadVar, tab_agg hT h, ho, tab_size' hT h, this]

theorem partOf_run {t : Nat} {w : World} {b o j : Nat} {vs : List Value} {p : Prop} {x : Value} (h : partOf T t vs j = some (p, x)) (hp : p)
    (hc : ∀ q x, vs[q]? = some x → w.cell? ⟨b, o + q, none⟩ = some x) : (loadVar t ⟨b, o + j, none⟩).run P w = .ok x w := by
  unfold partOf at h
  split at h
  · rename_i hi
    split at h <;> first | (cases h; done) | skip
    · cases h; exact run_loadVar_one hT hi rfl (hc _ _ hp)
    · cases h; exact run_loadVar_one hT hi rfl (hc _ _ hp)
    · cases h; exact run_loadVar_one hT hi rfl (hc _ _ hp)
    · cases h; exact run_loadVar_agg hT hi rfl hp hc
    · cases h; exact run_loadVar_agg hT hi rfl hp hc
    · cases h; exact run_loadVar_one hT hi rfl (hc _ _ hp)
  · cases h
end

theorem cells_of_blk {M : Loc} {w : World} {id : Nat} {e : TypeId} {segs : List Seg} (h : BlkAt M w id (.cells e segs)) (q : Nat) : w.cell? ⟨(M id).1, q, none⟩ = (concSegs M segs)[q]? := by
  rw [cell_of_row w _ q _ _ _ h.1]; simp

theorem seg_cells {M : Loc} {w : World} {id : Nat} {e : TypeId} {segs : List Seg} {off s0 : Nat} {s : Seg} (h : BlkAt M w id (.cells e segs)) (hs : segAt segs 0 off = some (s0, s)) :
    ∀ q x, (concSegs M [s])[q]? = some x → w.cell? ⟨(M id).1, s0 + q, none⟩ = some x := by
  intro q x hq
  obtain ⟨_, _, _, _, A, B, hAB, hA, _⟩ := segAt_cell (M := M) h.2 (Nat.zero_le _) hs
  rw [cells_of_blk h, hAB, List.append_assoc, List.getElem?_append_right (by omega), hA]
  rw [show s0 + q - (s0 - 0) = q by omega, List.getElem?_append_left (by have := List.getElem?_eq_some_iff.1 hq; exact this.1)]
  exact hq

theorem vals_cells {M : Loc} {w : World} {id : Nat} {e : TypeId} {segs : List Seg} {off s0 n : Nat} {vs : List Value} (h : BlkAt M w id (.cells e segs)) (hs : segAt segs 0 off = some (s0, .vals n vs)) :
    ∀ q x, vs[q]? = some x → w.cell? ⟨(M id).1, s0 + q, none⟩ = some x := fun q x hq => seg_cells h hs q x (by simpa [concSegs] using hq)

theorem row_cells {M : Loc} {w : World} {id : Nat} {e sz n : Nat} {vs : List Value} (h : BlkAt M w id (.row e sz n vs)) : ∀ q x, vs[q]? = some x → w.cell? ⟨(M id).1, 0 + q, none⟩ = some x := by
  intro q x hq
  obtain ⟨h1, cur, hc, h2, h3, h4, h5⟩ := h
  rw [cell_of_row w _ _ _ _ _ hc, Nat.zero_add]
  rw [← h5, List.getElem?_take] at hq
  split at hq
  · simpa using hq
  · cases hq

theorem Agree.cell {S : Nat → Prop} {w w' : World} (h : Agree S w w') {a : Addr} {v : Value} (hc : w.cell? a = some v) (hs : ¬ S a.block) : w'.cell? a = some v := by
  rw [← hc]; exact World.cell?_of_block (h.block _ (World.block_lt_of_cell? w a hc) hs)

theorem agg_ext {P : Program} {T : Tab} (hT : tabOK P T) {t : Nat} {i : TI} (hi : lk T t = some i) (ho : oneCellTy i.d = false) {S : Nat → Prop} {W0 w : World} (hA : Agree S W0 w) {a : Addr}
    (hp : (∀ j, j < i.size → (W0.cell? (a.add j)).isSome) ∧ ¬ S a.block) : (loadVar t a).run P w = .ok (.agg (extCells W0 a 0 i.size).toArray) w := by
  have := run_loadCells_list (P := P) (w := w) a (extCells W0 a 0 i.size) (fun q v hq => by
    have hlt : q < i.size := by have := (List.getElem?_eq_some_iff.1 hq).1; rwa [extCells_length] at this
    have := extCells_get _ _ _ 0 q v hq (by simpa using hp.1 q hlt)
    rw [Nat.zero_add] at this
    exact hA.cell this (by rw [add_block]; exact hp.2))
  rw [extCells_length] at this
  simp [loadVar, tab_agg hT hi, ho, tab_size' hT hi, this]

theorem loadOf_run {C : Ctx} {T : Tab} (hT : tabOK C.P T) {M : Loc} {σ : St} {a0 : Act} {w : World} (hR : RelQ C M σ a0 w) {t : Nat} {x y : AV} {p : Prop}
    (he : loadOf T C.w0 C.S0 σ.h t x = some (p, y)) (hp : p) : (Instr.loadAt t (conc M x)).run C.P w = .ok (conc M y) w := by
  cases x with
  | v x =>
    cases x <;> simp only [loadOf] at he <;> try (cases he; done)
    rename_i a
    cases a with
    | none => cases he
    | some a =>
      simp only [Tab.desc] at he
      cases hi : lk T t with
      | none => simp [hi] at he
      | some i =>
        simp only [hi] at he
        split at he
        · rename_i k hd
          cases he
          have := run_loadVar_one hT hi (by simp at hd; rw [hd]; rfl) (hR.agree.cell hp.1 hp.2)
          simp [Instr.loadAt, Instr.sureAddr, conc, this]
        · rename_i hd
          cases he
          have := run_loadVar_one hT hi (by simp at hd; rw [hd]; rfl) (hR.agree.cell hp.1 hp.2)
          simp [Instr.loadAt, Instr.sureAddr, conc, this]
        · rename_i hd
          cases he
          have := run_loadVar_one hT hi (by simp at hd; rw [hd]; rfl) (hR.agree.cell hp.1 hp.2)
          simp [Instr.loadAt, Instr.sureAddr, conc, this]
        · rename_i hd
          cases he
          have := run_loadVar_one hT hi (by simp at hd; rw [hd]; rfl) (hR.agree.cell hp.1 hp.2)
          simp [Instr.loadAt, Instr.sureAddr, conc, this]
        · rename_i hd
          split at he <;> cases he
          rename_i sz hsz
          simp only [Tab.size, hi, Option.some.injEq] at hsz
          subst hsz
          have := agg_ext hT hi (by simp at hd; rw [hd]; rfl) hR.agree hp
          simp [Instr.loadAt, Instr.sureAddr, conc, this]
        · rename_i hd
          split at he <;> cases he
          rename_i sz hsz
          simp only [Tab.size, hi, Option.some.injEq] at hsz
          subst hsz
          have := agg_ext hT hi (by simp at hd; rw [hd]; rfl) hR.agree hp
          simp [Instr.loadAt, Instr.sureAddr, conc, this]
        · cases he
  | ptr id off =>
    simp only [loadOf] at he
    split at he
    · rename_i e segs hB
      have hb := hR.heap _ _ hB
      simp only [Tab.desc] at he
      cases hi : lk T t with
      | none => simp [hi] at he
      | some i =>
        simp only [hi] at he
        have key2 : ∀ s0 n vs, segAt segs 0 off = some (s0, .vals n vs) → (match partOf T t vs (off - s0) with | some (p, x) => some (p, AV.v x) | none => none) = some (p, y) →
            (Instr.loadAt t (conc M (.ptr id off))).run C.P w = .ok (conc M y) w := by
          intro s0 n vs hs hv
          obtain ⟨_, hle, _⟩ := segAt_cell (M := M) hb.2 (Nat.zero_le _) hs
          split at hv
          · rename_i p' x' hpo
            cases hv
            have := partOf_run hT hpo hp (vals_cells hb hs)
            rw [show s0 + (off - s0) = off by omega] at this
            simpa [Instr.loadAt, Instr.sureAddr, conc] using this
          · cases hv
        split at he
        · rename_i ho
          split at he
          · rename_i s0 z hs
            cases he
            obtain ⟨_, _, h1, _⟩ := segAt_cell (M := M) hb.2 (Nat.zero_le _) hs
            have h1' := h1 _ rfl
            subst h1'
            have := run_loadVar_one hT hi ho (seg_cells hb hs 0 _ (by simp [concSegs]; rfl))
            simpa [Instr.loadAt, Instr.sureAddr, conc] using this
          · rename_i s0 n vs hs; exact key2 s0 n vs hs he
          · cases he
        · rename_i ho
          split at he
          · rename_i h1 h2
            split at he
            · rename_i l sz hl hsz
              cases he
              have e1 := Nat.eq_of_beq_eq_true h2
              subst e1
              simp only [Tab.size, hi, Option.some.injEq] at hsz
              have hp : i.size = l.length := hsz.trans hp
              have := run_loadVar_agg hT hi ho (w := w) (b := (M id).1) (o := 0) (vs := l) (j := 0) (by omega) (fun q x hq => by
                rw [Nat.zero_add, cells_of_blk hb, segsVals_conc hl]; exact hq)
              simp only [List.drop_zero, hp, List.take_length] at this
              simpa [Instr.loadAt, Instr.sureAddr, conc] using this
            · cases he
          · split at he
            · rename_i s0 n vs hs; exact key2 s0 n vs hs he
            · cases he
    · cases he
  | elt id off j =>
    simp only [loadOf] at he
    split at he
    · rename_i e segs hB
      have hb := hR.heap _ _ hB
      split at he
      · rename_i s0 n vs hs
        obtain ⟨_, hle, _⟩ := segAt_cell (M := M) hb.2 (Nat.zero_le _) hs
        split at he
        · rename_i p' x' hpo
          cases he
          have := partOf_run hT hpo hp (vals_cells hb hs)
          rw [show s0 + (off - s0 + j) = off + j by omega] at this
          simpa [Instr.loadAt, Instr.sureAddr, conc] using this
        · cases he
      · cases he
    · rename_i e sz n vs hB
      have hb := hR.heap _ _ hB
      split at he
      · rename_i h0
        have e1 := Nat.eq_of_beq_eq_true h0
        subst e1
        split at he
        · rename_i p' x' hpo
          cases he
          have := partOf_run hT hpo hp (row_cells hb)
          simpa [Instr.loadAt, Instr.sureAddr, conc] using this
        · cases he
      · cases he
    · cases he
  | tt b => cases he
  | mp _ => cases he
  | sl _ _ _ _ => cases he
  | fn _ _ => cases he
  | agg _ => cases he
  | tup _ => cases he

end Go.AM

/-
  The abstract machine, third part: the operations that turn nothing, all of them. Own work; over any program.
-/
namespace Go.AM

def band (k : IntKind) (a b : Int) : Int := k.wrap ((BitVec.ofInt k.bits a &&& BitVec.ofInt k.bits b).toNat)
def bor (k : IntKind) (a b : Int) : Int := k.wrap ((BitVec.ofInt k.bits a ||| BitVec.ofInt k.bits b).toNat)
def bxor (k : IntKind) (a b : Int) : Int := k.wrap ((BitVec.ofInt k.bits a ^^^ BitVec.ofInt k.bits b).toNat)
def bandn (k : IntKind) (a b : Int) : Int := k.wrap ((BitVec.ofInt k.bits a &&& ~~~(BitVec.ofInt k.bits b)).toNat)
def shlI (k : IntKind) (a b : Int) : Int := k.wrap (a * 2 ^ (min b.toNat k.bits))
def shrI (k : IntKind) (a b : Int) : Int := a.fdiv (2 ^ (min b.toNat k.bits))

/-- A binary operation on plain values: what must hold, and what it gives. -/
def binOf (op : BinOp) : Value → Value → Option (Prop × Value)
  | .int k a, .int k' b =>
    match op with
    | .shl => some (0 ≤ b, .int k (shlI k a b))
    | .shr => some (0 ≤ b, .int k (shrI k a b))
    | .add => some (k = k', .int k (k.wrap (a + b)))
    | .sub => some (k = k', .int k (k.wrap (a - b)))
    | .mul => some (k = k', .int k (k.wrap (a * b)))
    | .quo => some (k = k' ∧ b ≠ 0, .int k (k.wrap (a.tdiv b)))
    | .rem => some (k = k' ∧ b ≠ 0, .int k (a.tmod b))
    | .and => some (k = k', .int k (band k a b))
    | .or => some (k = k', .int k (bor k a b))
    | .xor => some (k = k', .int k (bxor k a b))
    | .andNot => some (k = k', .int k (bandn k a b))
    | .eql => some (k = k', .bool (a == b))
    | .neq => some (k = k', .bool (a != b))
    | .lss => some (k = k', .bool (decide (a < b)))
    | .leq => some (k = k', .bool (decide (a ≤ b)))
    | .gtr => some (k = k', .bool (decide (a > b)))
    | .geq => some (k = k', .bool (decide (a ≥ b)))
  | .string a, .string b =>
    match op with
    | .add => some (((a.size + b.size : Nat) : Int) ≤ IntKind.i64.max, .string (a ++ b))
    | .eql => some (True, .bool (a.toList == b.toList))
    | .neq => some (True, .bool !(a.toList == b.toList))
    | .lss => some (True, .bool (Op.bytesLess a.toList b.toList))
    | .leq => some (True, .bool (Op.bytesLess a.toList b.toList || a.toList == b.toList))
    | .gtr => some (True, .bool !(Op.bytesLess a.toList b.toList || a.toList == b.toList))
    | .geq => some (True, .bool !(Op.bytesLess a.toList b.toList))
    | _ => none
  | _, _ => none

theorem binOf_run {P : Program} {op : BinOp} {t : TypeId} {x y z : Value} {p : Prop} (h : binOf op x y = some (p, z)) (hp : p) (w : World) (ox oy : Operand) :
    (do eqGuard op t ox oy x y; binOp op t x y : Sem Value).run P w = .ok z w := by
  cases x <;> cases y <;> simp only [binOf] at h <;> try (cases h; done)
  · cases op <;> simp only [Option.some.injEq, Prod.mk.injEq] at h <;> obtain ⟨rfl, rfl⟩ := h <;>
      first
      | (simp [eqGuard, binOp, Op.shift, shlI, shrI, Int.not_lt.2 hp]; done)
      | (obtain ⟨rfl, hb⟩ := hp; simp [eqGuard, binOp, Op.intDiv, hb]; done)
      | (subst hp; simp [eqGuard, binOp, Op.intArith, Op.intBits, Op.intCmp, band, bor, bxor, bandn]; done)
  · cases op <;> simp only [Option.some.injEq, Prod.mk.injEq] at h <;> (try (cases h; done)) <;> obtain ⟨rfl, rfl⟩ := h <;>
      first
      | (simp [eqGuard, binOp, Op.stringOp]; done)
      | (have hp' : ¬ IntKind.i64.max < (_ : Int) := Int.not_lt.2 hp
         simp [eqGuard, binOp, Op.stringOp]; simpa using hp')

section
variable {P : Program} {t : TypeId} {w : World}
theorem eqIn_func_nn (d : Nat) {ps rs : Array TypeId} {vd : Bool} (hu : P.underlying t = some (.func ps rs vd)) : (Op.equalIn (d + 1) t .nilFunc .nilFunc).run P w = .ok true w := by
  simp [Op.equalIn, run_underlying hu]
theorem eqIn_func_fn (d : Nat) {ps rs : Array TypeId} {vd : Bool} (hu : P.underlying t = some (.func ps rs vd)) (f : Fn) (a b : Array Value) : (Op.equalIn (d + 1) t (.func f a b) .nilFunc).run P w = .ok false w := by
  simp [Op.equalIn, run_underlying hu]
theorem eqIn_slice_nil (d : Nat) {e : TypeId} (hu : P.underlying t = some (.slice e)) (a : Addr) (l c : Nat) : (Op.equalIn (d + 1) t (.slice (some a) l c) (.slice none 0 0)).run P w = .ok false w := by
  simp [Op.equalIn, run_underlying hu]
theorem eq_func_nn {ps rs : Array TypeId} {vd : Bool} (hu : P.underlying t = some (.func ps rs vd)) : (Op.equal t .nilFunc .nilFunc).run P w = .ok true w := eqIn_func_nn 9999 hu
theorem eq_func_fn {ps rs : Array TypeId} {vd : Bool} (hu : P.underlying t = some (.func ps rs vd)) (f : Fn) (a b : Array Value) : (Op.equal t (.func f a b) .nilFunc).run P w = .ok false w := eqIn_func_fn 9999 hu f a b
theorem eq_slice_nil {e : TypeId} (hu : P.underlying t = some (.slice e)) (a : Addr) (l c : Nat) : (Op.equal t (.slice (some a) l c) (.slice none 0 0)).run P w = .ok false w := eqIn_slice_nil 9999 hu a l c
end

/-- A plain value, if it is one. -/
def AV.toV : AV → Option Value
  | .v x => some x
  | .tt b => some (.bool b)
  | _ => none

theorem AV.toV_conc {M : Loc} {x : AV} {y : Value} (h : x.toV = some y) : conc M x = y := by
  cases x <;> simp only [AV.toV] at h <;> first | (cases h; rfl) | cases h

def evBin (T : Tab) (op : BinOp) (t : TypeId) (x y : AV) : Option (Prop × AV) :=
  match x.toV, y.toV with
  | some (.bool a), some (.bool b) =>
    match T.desc t with
    | some .bool => match op with
      | .eql => some (True, .v (.bool (a == b)))
      | .neq => some (True, .v (.bool (!(a == b))))
      | _ => none
    | _ => none
  | some .nilFunc, some .nilFunc =>
    match T.desc t with
    | some (.func _ _ _) => match op with
      | .eql => some (True, .tt true)
      | .neq => some (True, .tt false)
      | _ => none
    | _ => none
  | some x, some y => match binOf op x y with | some (p, z) => some (p, .v z) | none => none
  | none, some .nilFunc =>
    match x, T.desc t with
    | .fn _ _, some (.func _ _ _) => match op with
      | .eql => some (True, .tt false)
      | .neq => some (True, .tt true)
      | _ => none
    | _, _ => none
  | none, some (.slice none 0 0) =>
    match x, T.desc t with
    | .sl _ _ _ _, some (.slice _) => match op with
      | .eql => some (True, .tt false)
      | .neq => some (True, .tt true)
      | _ => none
    | _, _ => none
  | _, _ => none

theorem tab_undP {P : Program} {T : Tab} (hT : tabOK P T) {t : Nat} {d : TypeDesc} (h : T.desc t = some d) : P.underlying t = some d := by
  unfold Tab.desc at h
  split at h
  · rename_i hi; cases h; exact (hT t _ hi).1
  · cases h

theorem evBin_run {P : Program} {T : Tab} (hT : tabOK P T) {M : Loc} {op : BinOp} {t : TypeId} {x y z : AV} {p : Prop} (h : evBin T op t x y = some (p, z)) (hp : p) (w : World) (ox oy : Operand) :
    (do eqGuard op t ox oy (conc M x) (conc M y); binOp op t (conc M x) (conc M y) : Sem Value).run P w = .ok (conc M z) w := by
  unfold evBin at h
  split at h
  · rename_i a b hx hy
    rw [AV.toV_conc hx, AV.toV_conc hy]
    split at h
    · rename_i hd
      have hu := tab_undP hT hd
      split at h <;> cases h
      · simp [eqGuard, run_eql_bool (P := P) w t a b hu, conc]
      · simp [eqGuard, run_neq_bool (P := P) w t a b hu, conc]
    · cases h
  · rename_i hx hy
    rw [AV.toV_conc hx, AV.toV_conc hy]
    split at h
    · rename_i hd
      have hu := eq_func_nn (w := w) (tab_undP hT hd)
      split at h <;> cases h
      · simp [eqGuard, binOp, hu, conc]
      · simp [eqGuard, binOp, hu, conc]
    · cases h
  · rename_i x' y' hx hy
    rw [AV.toV_conc hx, AV.toV_conc hy]
    split at h
    · rename_i p' z' hb; cases h
      exact binOf_run hb hp w ox oy
    · cases h
  · rename_i hx hy
    rw [AV.toV_conc hy]
    split at h
    · rename_i f caps ps rs vd hd
      have hu := eq_func_fn (w := w) (tab_undP hT hd) (.func f) #[] (concL M caps).toArray
      split at h <;> cases h
      · simp [eqGuard, binOp, hu, conc]
      · simp [eqGuard, binOp, hu, conc]
    · cases h
  · rename_i hx hy
    rw [AV.toV_conc hy]
    split at h
    · rename_i id sz off len e hd
      have hu := eq_slice_nil (w := w) (tab_undP hT hd) ⟨(M id).1, off * sz, none⟩ len ((M id).2 - off)
      split at h <;> cases h
      · simp [eqGuard, binOp, hu, conc]
      · simp [eqGuard, binOp, hu, conc]
    · cases h
  · cases h

end Go.AM
