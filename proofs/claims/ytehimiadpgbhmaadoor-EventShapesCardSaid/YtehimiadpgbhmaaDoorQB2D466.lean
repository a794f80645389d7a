/-
  Own work, merged: AM5.
-/
import Derived.AtR
import Derived.Below
import Derived.Laws.AppendOwn
import Derived.Laws.BytesString
import Derived.Laws.Cells
import Derived.Laws.CopyRow
import Derived.Laws.Entries
import Derived.Laws.Rows
import Derived.Laws.Small
import Derived.Test.YtehimiadpgbhmaaDoorQ8665AD
/-
  The abstract machine, fifth part: stores and new blocks. Own work; over any program.
-/
namespace Go.AM

def okCell : AV → Prop
  | .v x => x.oneCell' = true
  | .agg _ => False
  | .tup _ => False
  | _ => True

theorem okCell_one {M : Loc} {x : AV} (h : okCell x) : (conc M x).oneCell' = true ∧ (conc M x).cells = #[conc M x] := by
  cases x with
  | v x => cases x <;> simp_all [okCell, conc, Value.oneCell', Value.cells]
  | agg l => exact h.elim
  | tup l => exact h.elim
  | _ => simp [conc, Value.oneCell', Value.cells]

def hset (h : List (Nat × Blk)) (id : Nat) (B : Blk) : List (Nat × Blk) :=
  match h with
  | [] => []
  | (j, B') :: r => match Nat.beq id j with | true => (j, B) :: r | false => (j, B') :: hset r id B

theorem lk_hset {h : List (Nat × Blk)} {id : Nat} {B : Blk} {B0 : Blk} (h0 : lk h id = some B0) (j : Nat) : lk (hset h id B) j = if j = id then some B else lk h j := by
  induction h with
  | nil => cases h0
  | cons x r ih =>
    obtain ⟨i, B'⟩ := x
    simp only [lk] at h0
    simp only [hset]
    split at h0
    · rename_i he
      have e := Nat.eq_of_beq_eq_true he
      subst e
      rw [he]
      simp only [lk]
      by_cases hj : j = id
      · subst hj; simp
      · have : Nat.beq j id = false := by
          cases hb : Nat.beq j id with
          | false => rfl
          | true => exact absurd (Nat.eq_of_beq_eq_true hb) hj
        simp [hj, this]
    · rename_i he
      rw [he]
      simp only [lk]
      by_cases hj : j = id
      · subst hj; simp [he, ih h0]
      · split
        · rename_i h1; simp [hj]
        · rw [ih h0, if_neg hj]

/-- An owned block's contents turned, nothing else. -/
theorem RelH.upd {C : Ctx} {M : Loc} {fp : Nat → Prop} {h : List (Nat × Blk)} {w w' : World} (hL : Local C.X) (hR : RelH C M fp h w) {id : Nat} {B0 B : Blk} (h0 : lk h id = some B0)
    (hos : w'.os = w.os) (htape : w'.tape = w.tape) (hout : w'.output = w.output) (hsize : w'.heap.size = w.heap.size)
    (hother : ∀ k, k ≠ (M id).1 → w'.heap[k]? = w.heap[k]?) (hB : BlkAt M w' id B) : RelH C M fp (hset h id B) w' := by
  have hlt := (hR.heap _ _ h0).lt
  have hc : ∀ j Bj, lk (hset h id B) j = some Bj → ∃ Bj', lk h j = some Bj' := by
    intro j Bj hj
    rw [lk_hset h0] at hj
    split at hj
    · rename_i e; subst e; exact ⟨B0, h0⟩
    · exact ⟨Bj, hj⟩
  refine { heap := ?_, inj := ?_, own := ?_, apart := ?_, agree := ?_, outer := ?_, fpok := ?_ }
  · intro j Bj hj
    rw [lk_hset h0] at hj
    split at hj
    · rename_i e; subst e; cases hj; exact hB
    · rename_i e
      have hne : (M j).1 ≠ (M id).1 := fun e' => e (hR.inj _ _ _ _ hj h0 e')
      have := hR.heap _ _ hj
      cases Bj with
      | cells e segs => exact ⟨by rw [hother _ hne]; exact this.1, this.2⟩
      | row e sz n vs => obtain ⟨h1, cur, h2, h3⟩ := this; exact ⟨h1, cur, by rw [hother _ hne]; exact h2, h3⟩
      | map es => obtain ⟨h1, cur, h2, h3⟩ := this; exact ⟨h1, cur, by rw [hother _ hne]; exact h2, h3⟩
      | rowA e sz n xs => obtain ⟨h1, cur, h2, h3⟩ := this; exact ⟨h1, cur, by rw [hother _ hne]; exact h2, h3⟩
  · intro i j Bi Bj hi hj e
    obtain ⟨Bi', hi'⟩ := hc _ _ hi
    obtain ⟨Bj', hj'⟩ := hc _ _ hj
    exact hR.inj _ _ _ _ hi' hj' e
  · intro j Bj hj hl
    obtain ⟨Bj', hj'⟩ := hc _ _ hj
    exact hR.own _ _ hj' hl
  · intro j Bj hj
    obtain ⟨Bj', hj'⟩ := hc _ _ hj
    exact hR.apart _ _ hj'
  · refine ⟨hos.trans hR.agree.os, htape.trans hR.agree.tape, hout.trans hR.agree.output, by rw [hsize]; exact hR.agree.size, ?_⟩
    intro k hk hs
    rw [hother k ?_]
    · exact hR.agree.block k hk hs
    · intro e; subst e; exact hs (hR.own _ _ h0 hk)
  · exact hL w w' fp hR.outer (fun b hb => (hR.fpok b hb).1) (fun b hb => hother b (fun e => hR.apart _ _ h0 (e ▸ hb)))
  · intro b hb; rw [hsize]; exact hR.fpok b hb

def updM (M : Loc) (id : Nat) (x : Nat × Nat) : Loc := fun j => if j = id then x else M j

/-- A new block. -/
theorem RelH.new {C : Ctx} {M : Loc} {fp : Nat → Prop} {h : List (Nat × Blk)} {w w' : World} (hL : Local C.X) (hR : RelH C M fp h w) {id cap : Nat} {B : Blk} (hb : hBelow id h = true)
    (hos : w'.os = w.os) (htape : w'.tape = w.tape) (hout : w'.output = w.output) (hsize : w.heap.size < w'.heap.size)
    (hother : ∀ k, k < w.heap.size → w'.heap[k]? = w.heap[k]?) (hB : BlkAt (updM M id (w.heap.size, cap)) w' id B) :
    RelH C (updM M id (w.heap.size, cap)) fp ((id, B) :: h) w' := by
  have hM : ∀ i, i < id → updM M id (w.heap.size, cap) i = M i := fun i hi => by simp [updM, Nat.ne_of_lt hi]
  have hMid : updM M id (w.heap.size, cap) id = (w.heap.size, cap) := by simp [updM]
  have cs : ∀ j Bj, lk ((id, B) :: h) j = some Bj → (j = id ∧ Bj = B) ∨ (j < id ∧ lk h j = some Bj) := by
    intro j Bj hj
    simp only [lk] at hj
    split at hj
    · rename_i he; cases hj; exact .inl ⟨Nat.eq_of_beq_eq_true he, rfl⟩
    · exact .inr ⟨(lkh_below hb hj).1, hj⟩
  refine { heap := ?_, inj := ?_, own := ?_, apart := ?_, agree := ?_, outer := ?_, fpok := ?_ }
  · intro j Bj hj
    rcases cs j Bj hj with ⟨rfl, rfl⟩ | ⟨hlt, hj'⟩
    · exact hB
    · have h1 := hR.heap _ _ hj'
      exact h1.congr hM hlt (lkh_below hb hj').2 (hother _ h1.lt)
  · intro i j Bi Bj hi hj e
    rcases cs i Bi hi with ⟨rfl, rfl⟩ | ⟨hi1, hi'⟩ <;> rcases cs j Bj hj with ⟨rfl, rfl⟩ | ⟨hj1, hj'⟩
    · rfl
    · rw [hMid, hM j hj1] at e; have := (hR.heap _ _ hj').lt; simp only at e; omega
    · rw [hMid, hM i hi1] at e; have := (hR.heap _ _ hi').lt; simp only at e; omega
    · rw [hM i hi1, hM j hj1] at e; exact hR.inj _ _ _ _ hi' hj' e
  · intro j Bj hj hl
    rcases cs j Bj hj with ⟨rfl, rfl⟩ | ⟨hj1, hj'⟩
    · rw [hMid] at hl; have := hR.agree.size; simp only at hl; omega
    · rw [hM j hj1] at hl ⊢; exact hR.own _ _ hj' hl
  · intro j Bj hj
    rcases cs j Bj hj with ⟨rfl, rfl⟩ | ⟨hj1, hj'⟩
    · rw [hMid]; intro hf; have := (hR.fpok _ hf).1; simp only at this; omega
    · rw [hM j hj1]; exact hR.apart _ _ hj'
  · refine ⟨hos.trans hR.agree.os, htape.trans hR.agree.tape, hout.trans hR.agree.output, by have := hR.agree.size; omega, ?_⟩
    intro k hk hs
    rw [hother k (by have := hR.agree.size; omega)]
    exact hR.agree.block k hk hs
  · exact hL w w' fp hR.outer (fun b hb => (hR.fpok b hb).1) (fun b hb => hother b (hR.fpok b hb).1)
  · intro b hb; have := hR.fpok b hb; exact ⟨by omega, this.2⟩

section
variable {P : Program} {T : Tab} (hT : tabOK P T)
include hT
theorem run_storeVar {t : Nat} {i : TI} (h : lk T t = some i) {v : Value} (hv : v.cells.size = i.size) {w : World} {g o : Nat} {e : TypeId} {cur : Array Value} (hg : w.heap[g]? = some (.cells cur e (0, 0)))
    (hfit : o + i.size ≤ cur.size) (h1 : ∀ c ∈ v.cells.toList, c.oneCell' = true) :
    (storeVar t ⟨g, o, none⟩ v).run P w = .ok () (w.setRow g (cur.toList.take o ++ v.cells.toList ++ cur.toList.drop (o + i.size)).toArray) := by
  have := run_storeCells_at P g o e v.cells.toList 0 cur w hg (by simpa [hv] using hfit) h1
  simp only [Nat.add_zero, Array.length_toList, hv] at this
  simp [storeVar, tab_size' hT h, hv, this]
end

theorem setRow_other (w : World) (g : Nat) (cs : Array Value) (k : Nat) (h : k ≠ g) : (w.setRow g cs).heap[k]? = w.heap[k]? := by
  simp only [World.setRow, Array.getElem?_modify]
  rw [if_neg (by omega)]

/-- Cells put in the place of others. -/
def splice (vs : List Value) (j : Nat) (l : List Value) : List Value := vs.take j ++ l ++ vs.drop (j + l.length)

theorem splice_length {vs : List Value} {j : Nat} {l : List Value} (h : j + l.length ≤ vs.length) : (splice vs j l).length = vs.length := by
  simp [splice]; omega

theorem splice_mid (A V B : List Value) (j : Nat) (l : List Value) (h : j + l.length ≤ V.length) : splice (A ++ V ++ B) (A.length + j) l = A ++ splice V j l ++ B := by
  unfold splice
  rw [List.append_assoc A V B, List.take_append, List.drop_append]
  simp only [List.take_of_length_le (show A.length ≤ A.length + j by omega), Nat.add_sub_cancel_left]
  rw [List.take_append_of_le_length (by omega)]
  rw [List.drop_eq_nil_of_le (show A.length ≤ A.length + j + l.length by omega)]
  rw [show A.length + j + l.length - A.length = j + l.length by omega, List.drop_append_of_le_length h]
  simp

theorem splice_one (vs : List Value) (j : Nat) (x : Value) (h : j < vs.length) : splice vs j [x] = vs.set j x := by
  unfold splice
  rw [List.set_eq_take_append_cons_drop, if_pos h]
  simp

/-- What a store turns. -/
def storeOf (T : Tab) (h : List (Nat × Blk)) (t : Nat) (addr val : AV) : Option (Prop × List (Nat × Blk)) :=
  match T.desc t, T.size t with
  | some d, some sz =>
    match oneCellTy d with
    | true =>
      match addr with
      | .ptr id off =>
        match lk h id with
        | some (.cells e segs) =>
          match segAt segs 0 off with
          | some (_, .one _) => some (okCell val ∧ sz = 1, hset h id (.cells e (setSeg segs 0 off [.one val])))
          | some (s0, .vals n vs) =>
            match val.toV with
            | some x => some (okCell val ∧ sz = 1, hset h id (.cells e (setSeg segs 0 off [.vals n (vs.set (off - s0) x)])))
            | none => some (okCell val ∧ sz = 1, hset h id (.cells e (setSeg segs 0 off [.vals (off - s0) (vs.take (off - s0)), .one val, .vals (n - (off - s0) - 1) (vs.drop (off - s0 + 1))])))
          | none => none
        | _ => none
      | .elt id off j =>
        match lk h id with
        | some (.cells e segs) =>
          match segAt segs 0 off, val.toV with
          | some (s0, .vals n vs), some x => some ((okCell val ∧ sz = 1) ∧ off - s0 + j < n, hset h id (.cells e (setSeg segs 0 off [.vals n (vs.set (off - s0 + j) x)])))
          | _, _ => none
        | some (.row e s n vs) =>
          match Nat.beq off 0, val.toV with
          | true, some x => some ((okCell val ∧ sz = 1) ∧ j < vs.length, hset h id (.row e s n (vs.set j x)))
          | _, _ => none
        | _ => none
      | _ => none
    | false =>
      match val with
      | .v (.agg arr) =>
        match addr with
        | .ptr id off =>
          match lk h id with
          | some (.cells e segs) =>
            match Nat.beq e t, Nat.beq off 0 with
            | true, true => some ((arr.size = sz ∧ ∀ c ∈ arr.toList, c.oneCell' = true) ∧ (match segsVals segs with | some l => l.length = sz | none => False), hset h id (.cells e [.vals sz arr.toList]))
            | _, _ =>
              match segAt segs 0 off with
              | some (s0, .vals n vs) => some ((arr.size = sz ∧ ∀ c ∈ arr.toList, c.oneCell' = true) ∧ off - s0 + sz ≤ n, hset h id (.cells e (setSeg segs 0 off [.vals n (splice vs (off - s0) arr.toList)])))
              | _ => none
          | _ => none
        | .elt id off j =>
          match lk h id with
          | some (.cells e segs) =>
            match segAt segs 0 off with
            | some (s0, .vals n vs) => some ((arr.size = sz ∧ ∀ c ∈ arr.toList, c.oneCell' = true) ∧ off - s0 + j + sz ≤ n, hset h id (.cells e (setSeg segs 0 off [.vals n (splice vs (off - s0 + j) arr.toList)])))
            | _ => none
          | some (.row e s n vs) =>
            match Nat.beq off 0 with
            | true => some ((arr.size = sz ∧ ∀ c ∈ arr.toList, c.oneCell' = true) ∧ j + sz ≤ vs.length, hset h id (.row e s n (splice vs j arr.toList)))
            | false => none
          | _ => none
        | _ => none
      | _ => none
  | _, _ => none

/-- A store of some cells into the middle of a block. -/
theorem store_mid {C : Ctx} {T : Tab} (hT : tabOK C.P T) (hL : Local C.X) {M : Loc} {fp : Nat → Prop} {h : List (Nat × Blk)} {w : World} (hR : RelH C M fp h w) {t : Nat} {i : TI} (hi : lk T t = some i)
    {id : Nat} {e : TypeId} {segs l : List Seg} (h0 : lk h id = some (.cells e segs)) {off s0 k : Nat} {s : Seg} (hs : segAt segs 0 off = some (s0, s)) {v : Value} (hv : v.cells.size = i.size)
    (h1 : ∀ c ∈ v.cells.toList, c.oneCell' = true) (hk : k + i.size ≤ (concSegs M [s]).length) (hl : concSegs M l = splice (concSegs M [s]) k v.cells.toList) (hok : segsOK l) :
    ∃ w', (storeVar t ⟨(M id).1, s0 + k, none⟩ v).run C.P w = .ok () w' ∧ RelH C M fp (hset h id (.cells e (setSeg segs 0 off l))) w' := by
  have hb := hR.heap _ _ h0
  obtain ⟨_, _, _, _, A, B, hAB, hA, hset⟩ := segAt_cell (M := M) hb.2 (Nat.zero_le _) hs
  obtain ⟨h8, h9⟩ := hset l (by rw [hl, splice_length (by simpa [hv] using hk)]) hok
  have hrun := run_storeVar hT hi hv (w := w) (g := (M id).1) (o := s0 + k) hb.1 (by simp [hAB]; omega) h1
  refine ⟨_, hrun, ?_⟩
  refine hR.upd hL h0 rfl rfl rfl (by simp) (fun k hk => setRow_other _ _ _ _ hk) ⟨?_, h9⟩
  have e1 : (concSegs M segs).take (s0 + k) ++ v.cells.toList ++ (concSegs M segs).drop (s0 + k + i.size) = concSegs M (setSeg segs 0 off l) := by
    have e2 : splice (concSegs M segs) (s0 + k) v.cells.toList = (concSegs M segs).take (s0 + k) ++ v.cells.toList ++ (concSegs M segs).drop (s0 + k + i.size) := by simp [splice, hv]
    rw [← e2, hAB, show s0 + k = A.length + k by omega, splice_mid _ _ _ _ _ (by simpa [hv] using hk), h8, hl]
  rw [setRow_heap w _ _ _ _ _ hb.1]
  simp only [e1]

theorem store_row {C : Ctx} {T : Tab} (hT : tabOK C.P T) (hL : Local C.X) {M : Loc} {fp : Nat → Prop} {h : List (Nat × Blk)} {w : World} (hR : RelH C M fp h w) {t : Nat} {i : TI} (hi : lk T t = some i)
    {id : Nat} {e sz n : Nat} {vs : List Value} (h0 : lk h id = some (.row e sz n vs)) {k : Nat} {v : Value} (hv : v.cells.size = i.size)
    (h1 : ∀ c ∈ v.cells.toList, c.oneCell' = true) (hk : k + i.size ≤ vs.length) :
    ∃ w', (storeVar t ⟨(M id).1, k, none⟩ v).run C.P w = .ok () w' ∧ RelH C M fp (hset h id (.row e sz n (splice vs k v.cells.toList))) w' := by
  have hb := hR.heap _ _ h0
  obtain ⟨hn, cur, hc, hcap, hmax, hsz, htake⟩ := hb
  have hcur : n * sz ≤ cur.size := by rw [hsz]; exact Nat.mul_le_mul_right _ hcap
  have hrun := run_storeVar hT hi hv (w := w) (g := (M id).1) (o := k) hc (by omega) h1
  refine ⟨_, hrun, ?_⟩
  refine hR.upd hL h0 rfl rfl rfl (by simp) (fun k hk => setRow_other _ _ _ _ hk) ⟨by rw [splice_length (by simpa [hv] using hk)]; exact hn, _, setRow_heap w _ _ _ _ _ hc, hcap, hmax, ?_, ?_⟩
  · simp [hv]; omega
  · have e2 : cur.toList.take k ++ v.cells.toList ++ cur.toList.drop (k + i.size) = splice cur.toList k v.cells.toList := by simp [splice, hv]
    have e3 : cur.toList = [] ++ vs ++ cur.toList.drop (n * sz) := by rw [← htake]; simp
    rw [List.toList_toArray, e2, e3]
    have := splice_mid [] vs (cur.toList.drop (n * sz)) k v.cells.toList (by simpa [hv] using hk)
    simp only [List.length_nil, Nat.zero_add] at this
    rw [this, List.nil_append, List.take_append_of_le_length (by rw [splice_length (by simpa [hv] using hk)]; omega), List.take_of_length_le (by rw [splice_length (by simpa [hv] using hk)]; omega)]

theorem toV_conc_vals {M : Loc} {x : AV} {y : Value} (h : x.toV = some y) (ho : okCell x) : (conc M x).cells.toList = [y] ∧ (conc M x).cells.size = 1 ∧ ∀ c ∈ (conc M x).cells.toList, c.oneCell' = true := by
  obtain ⟨h1, h2⟩ := okCell_one (M := M) ho
  rw [h2, AV.toV_conc h] at *
  exact ⟨rfl, rfl, by simpa using h1⟩

theorem okCell_cells {M : Loc} {x : AV} (ho : okCell x) : (conc M x).cells.toList = [conc M x] ∧ (conc M x).cells.size = 1 ∧ ∀ c ∈ (conc M x).cells.toList, c.oneCell' = true := by
  obtain ⟨h1, h2⟩ := okCell_one (M := M) ho
  rw [h2]
  exact ⟨rfl, rfl, by simpa using h1⟩

theorem storeOf_run {C : Ctx} {T : Tab} (hT : tabOK C.P T) (hL : Local C.X) {M : Loc} {fp : Nat → Prop} {h h' : List (Nat × Blk)} {w : World} (hR : RelH C M fp h w) {t : Nat} {x y : AV} {p : Prop}
    (he : storeOf T h t x y = some (p, h')) (hp : p) : ∃ w', (Instr.storeAt t (conc M x) (conc M y)).run C.P w = .ok () w' ∧ RelH C M fp h' w' := by
  unfold storeOf at he
  cases hi : lk T t with
  | none => simp [Tab.desc, hi] at he
  | some i =>
    simp only [Tab.desc, Tab.size, hi] at he
    cases ho : oneCellTy i.d with
    | true =>
      simp only [ho] at he
      split at he <;> first | (cases he; done) | skip
      · rename_i id off
        split at he <;> first | (cases he; done) | skip
        rename_i e segs h0
        split at he <;> first | (cases he; done) | skip
        · rename_i s0 z hs
          cases he
          obtain ⟨c1, c2, c3⟩ := okCell_cells (M := M) hp.1
          obtain ⟨_, hle, h3, h4, _⟩ := segAt_cell (M := M) (hR.heap _ _ h0).2 (Nat.zero_le _) hs
          have e1 := h3 _ rfl
          subst e1
          obtain ⟨w', hw, hR'⟩ := store_mid hT hL hR hi h0 (l := [.one y]) (k := 0) hs (v := conc M y) (by rw [c2, hp.2]) c3 (by simp [concSegs, hp.2]) (by rw [c1]; simp [concSegs, splice]) trivial
          exact ⟨w', by simpa [Instr.storeAt, Instr.sureAddr, conc] using hw, hR'⟩
        · rename_i s0 n vs hs
          obtain ⟨_, hle, h3, h4, _⟩ := segAt_cell (M := M) (hR.heap _ _ h0).2 (Nat.zero_le _) hs
          obtain ⟨h5, h6⟩ := h4 _ _ rfl
          split at he
          · rename_i x' hx
            cases he
            obtain ⟨c1, c2, c3⟩ := toV_conc_vals (M := M) hx hp.1
            obtain ⟨w', hw, hR'⟩ := store_mid hT hL hR hi h0 (l := [.vals n (vs.set (off - s0) x')]) (k := off - s0) hs (v := conc M y) (by rw [c2, hp.2]) c3 (by simp [concSegs, hp.2]; omega)
              (by rw [c1]; simp only [concSegs, List.append_nil]; rw [splice_one _ _ _ (by omega)]) ⟨by simpa using h6, trivial⟩
            rw [show s0 + (off - s0) = off by omega] at hw
            exact ⟨w', by simpa [Instr.storeAt, Instr.sureAddr, conc] using hw, hR'⟩
          · rename_i hx
            cases he
            obtain ⟨c1, c2, c3⟩ := okCell_cells (M := M) hp.1
            obtain ⟨w', hw, hR'⟩ := store_mid hT hL hR hi h0 (l := [.vals (off - s0) (vs.take (off - s0)), .one y, .vals (n - (off - s0) - 1) (vs.drop (off - s0 + 1))]) (k := off - s0) hs (v := conc M y) (by rw [c2, hp.2]) c3
              (by simp [concSegs, hp.2]; omega) (by rw [c1]; simp [concSegs, splice]) ⟨by simp; omega, by simp; omega, trivial⟩
            rw [show s0 + (off - s0) = off by omega] at hw
            exact ⟨w', by simpa [Instr.storeAt, Instr.sureAddr, conc] using hw, hR'⟩
      · rename_i id off j
        split at he <;> first | (cases he; done) | skip
        · rename_i e segs h0
          split at he <;> first | (cases he; done) | skip
          rename_i s0 n vs x' hs hx
          cases he
          obtain ⟨_, hle, h3, h4, _⟩ := segAt_cell (M := M) (hR.heap _ _ h0).2 (Nat.zero_le _) hs
          obtain ⟨h5, h6⟩ := h4 _ _ rfl
          obtain ⟨c1, c2, c3⟩ := toV_conc_vals (M := M) hx hp.1.1
          obtain ⟨w', hw, hR'⟩ := store_mid hT hL hR hi h0 (l := [.vals n (vs.set (off - s0 + j) x')]) (k := off - s0 + j) hs (v := conc M y) (by rw [c2, hp.1.2]) c3 (by have := hp.2; simp [concSegs, hp.1.2]; omega)
            (by rw [c1]; simp only [concSegs, List.append_nil]; rw [splice_one _ _ _ (by have := hp.2; omega)]) ⟨by simpa using h6, trivial⟩
          rw [show s0 + (off - s0 + j) = off + j by omega] at hw
          exact ⟨w', by simpa [Instr.storeAt, Instr.sureAddr, conc] using hw, hR'⟩
        · rename_i e s n vs h0
          split at he <;> first | (cases he; done) | skip
          rename_i x' hz hx
          cases he
          have e1 := Nat.eq_of_beq_eq_true hz
          subst e1
          obtain ⟨c1, c2, c3⟩ := toV_conc_vals (M := M) hx hp.1.1
          obtain ⟨w', hw, hR'⟩ := store_row hT hL hR hi h0 (k := j) (v := conc M y) (by rw [c2, hp.1.2]) c3 (by have := hp.2; rw [hp.1.2]; omega)
          rw [c1, splice_one _ _ _ hp.2] at hR'
          exact ⟨w', by simpa [Instr.storeAt, Instr.sureAddr, conc] using hw, hR'⟩
    | false =>
      simp only [ho] at he
      split at he <;> first | (cases he; done) | skip
      rename_i arr
      split at he <;> first | (cases he; done) | skip
      · rename_i id off
        split at he <;> first | (cases he; done) | skip
        rename_i e segs h0
        split at he
        · rename_i hz1 hz2
          cases he
          have e1 := Nat.eq_of_beq_eq_true hz2
          subst e1
          obtain ⟨⟨h1, h2⟩, h3⟩ := hp
          split at h3
          · rename_i l hl
            have hb := hR.heap _ _ h0
            have hcl := segsVals_conc (M := M) hl
            have hrun := run_storeVar hT hi (v := .agg arr) (by simpa [Value.cells] using h1) (w := w) (g := (M id).1) (o := 0) hb.1 (by simp [hcl]; omega) h2
            refine ⟨_, by simpa [Instr.storeAt, Instr.sureAddr, conc] using hrun, ?_⟩
            refine hR.upd hL h0 rfl rfl rfl (by simp) (fun k hk => setRow_other _ _ _ _ hk) ⟨?_, by simpa using h1, trivial⟩
            rw [setRow_heap w _ _ _ _ _ hb.1]
            simp [concSegs, Value.cells, hcl, h3, List.drop_eq_nil_of_le]
          · exact h3.elim
        · split at he <;> first | (cases he; done) | skip
          rename_i s0 n vs hs
          cases he
          obtain ⟨_, hle, h3, h4, _⟩ := segAt_cell (M := M) (hR.heap _ _ h0).2 (Nat.zero_le _) hs
          obtain ⟨h5, h6⟩ := h4 _ _ rfl
          obtain ⟨⟨h1, h2⟩, h7⟩ := hp
          obtain ⟨w', hw, hR'⟩ := store_mid hT hL hR hi h0 (l := [.vals n (splice vs (off - s0) arr.toList)]) (k := off - s0) hs (v := .agg arr) (by simpa [Value.cells] using h1) h2 (by simp [concSegs]; omega)
            (by simp [concSegs, Value.cells]) ⟨by rw [splice_length (by simp; omega)]; exact h6, trivial⟩
          rw [show s0 + (off - s0) = off by omega] at hw
          exact ⟨w', by simpa [Instr.storeAt, Instr.sureAddr, conc] using hw, hR'⟩
      · rename_i id off j
        split at he <;> first | (cases he; done) | skip
        · rename_i e segs h0
          split at he <;> first | (cases he; done) | skip
          rename_i s0 n vs hs
          cases he
          obtain ⟨_, hle, h3, h4, _⟩ := segAt_cell (M := M) (hR.heap _ _ h0).2 (Nat.zero_le _) hs
          obtain ⟨h5, h6⟩ := h4 _ _ rfl
          obtain ⟨⟨h1, h2⟩, h7⟩ := hp
          obtain ⟨w', hw, hR'⟩ := store_mid hT hL hR hi h0 (l := [.vals n (splice vs (off - s0 + j) arr.toList)]) (k := off - s0 + j) hs (v := .agg arr) (by simpa [Value.cells] using h1) h2 (by simp [concSegs]; omega)
            (by simp [concSegs, Value.cells]) ⟨by rw [splice_length (by simp; omega)]; exact h6, trivial⟩
          rw [show s0 + (off - s0 + j) = off + j by omega] at hw
          exact ⟨w', by simpa [Instr.storeAt, Instr.sureAddr, conc] using hw, hR'⟩
        · rename_i e s n vs h0
          split at he <;> first | (cases he; done) | skip
          rename_i hz
          cases he
          have e1 := Nat.eq_of_beq_eq_true hz
          subst e1
          obtain ⟨⟨h1, h2⟩, h7⟩ := hp
          obtain ⟨w', hw, hR'⟩ := store_row hT hL hR hi h0 (k := j) (v := .agg arr) (by simpa [Value.cells] using h1) h2 (by omega)
          exact ⟨w', by simpa [Instr.storeAt, Instr.sureAddr, conc] using hw, by simpa [Value.cells] using hR'⟩

end Go.AM
