/-
  Own work, merged: AM5b, AM6, AM7, AM8, AM9.
-/
import Derived.AtR
import Derived.Below
import Derived.Laws.AppendOwn
import Derived.Laws.BytesString
import Derived.Laws.Cells
import Derived.Laws.CopyRow
import Derived.Laws.Entries
import Derived.Laws.Rows
import Derived.Laws.Small
import Derived.Maps.AppendAt
import Derived.Test.YtehimiadpgbhmaaDoorQB2D466
/-
  The abstract machine, between the fifth and the sixth part: append. Own work; over any program.
-/
namespace Go.AM

def rmv {α : Type} : List (Nat × α) → Nat → List (Nat × α)
  | [], _ => []
  | (j, x) :: r, i => match Nat.beq i j with | true => rmv r i | false => (j, x) :: rmv r i

theorem lk_rmv {α : Type} {i : Nat} : ∀ {l : List (Nat × α)} {j : Nat} {x : α}, lk (rmv l i) j = some x → j ≠ i ∧ lk l j = some x
  | [], j, x, h => by cases h
  | (k, y) :: r, j, x, h => by
    simp only [rmv] at h
    split at h
    · rename_i he
      have e := Nat.eq_of_beq_eq_true he
      subst e
      obtain ⟨h1, h2⟩ := lk_rmv h
      refine ⟨h1, ?_⟩
      simp only [lk]
      split
      · rename_i h3; exact absurd (Nat.eq_of_beq_eq_true h3) h1
      · exact h2
    · rename_i he
      simp only [lk] at h ⊢
      split at h
      · rename_i h3
        cases h
        have e := Nat.eq_of_beq_eq_true h3
        subst e
        exact ⟨fun e => by subst e; simp at he, rfl⟩
      · exact lk_rmv h

def rmo {α : Type} (h : List (Nat × α)) : Option Nat → List (Nat × α)
  | some id => rmv h id
  | none => h

/-- A row grown: in its place, or in a new block. `old` is what was given up. -/
theorem RelH.grow {C : Ctx} (hL : Local C.X) {M : Loc} {fp : Nat → Prop} {h : List (Nat × Blk)} {w w' : World} (hR : RelH C M fp h w) {old : Option Nat} {row : Option Nat} {nx g cap : Nat} {B : Blk} (hb : hBelow nx h = true)
    (hrow : match old with | some id => (∃ B0, lk h id = some B0) ∧ row = some (M id).1 | none => row = none)
    (hg : w.grownBy w' row) (hat : some g = row ∨ g = w.heap.size) (hB : BlkAt (updM M nx (g, cap)) w' nx B) :
    RelH C (updM M nx (g, cap)) fp ((nx, B) :: (rmo h old)) w' := by
  have hM : ∀ i, i < nx → updM M nx (g, cap) i = M i := fun i hi => by simp [updM, Nat.ne_of_lt hi]
  have hMid : updM M nx (g, cap) nx = (g, cap) := by simp [updM]
  have hkeep : ∀ j Bj, lk (rmo h old) j = some Bj → lk h j = some Bj ∧ some (M j).1 ≠ row := by
    intro j Bj hj
    cases old with
    | none => simp only [rmo] at hj hrow; exact ⟨hj, by rw [hrow]; simp⟩
    | some id =>
      simp only [rmo] at hj hrow
      obtain ⟨⟨B0, h0⟩, hr⟩ := hrow
      obtain ⟨h1, h2⟩ := lk_rmv hj
      refine ⟨h2, fun e => h1 (hR.inj _ _ _ _ h2 h0 ?_)⟩
      rw [hr] at e; exact Option.some.inj e
  have cs : ∀ j Bj, lk ((nx, B) :: (rmo h old)) j = some Bj → (j = nx ∧ Bj = B) ∨ (j < nx ∧ lk h j = some Bj ∧ some (M j).1 ≠ row) := by
    intro j Bj hj
    rw [lk] at hj
    split at hj
    · rename_i he; cases hj; exact .inl ⟨Nat.eq_of_beq_eq_true he, rfl⟩
    · have := hkeep _ _ hj; exact .inr ⟨(lkh_below hb this.1).1, this⟩
  have hfprow : ∀ b, fp b → some b ≠ row := by
    intro b hfb e
    cases old with
    | none => simp only at hrow; rw [hrow] at e; cases e
    | some id =>
      simp only at hrow
      obtain ⟨⟨B0, h0⟩, hr⟩ := hrow
      rw [hr] at e
      exact hR.apart _ _ h0 (Option.some.inj e ▸ hfb)
  have hgold : some g = row → ∃ id B0, old = some id ∧ lk h id = some B0 ∧ g = (M id).1 := by
    intro e
    cases old with
    | none => simp only at hrow; rw [hrow] at e; cases e
    | some id =>
      simp only at hrow
      obtain ⟨⟨B0, h0⟩, hr⟩ := hrow
      rw [hr] at e
      exact ⟨id, B0, rfl, h0, Option.some.inj e⟩
  have hne : ∀ j Bj, lk h j = some Bj → some (M j).1 ≠ row → (M j).1 ≠ g := by
    intro j Bj hj hr e
    rcases hat with h1 | h1
    · exact hr (by rw [← h1, e])
    · have := (hR.heap _ _ hj).lt; omega
  refine { heap := ?_, inj := ?_, own := ?_, apart := ?_, agree := ?_, outer := ?_, fpok := ?_ }
  · intro j Bj hj
    rcases cs j Bj hj with ⟨rfl, rfl⟩ | ⟨hlt, hj', hr⟩
    · exact hB
    · have h1 := hR.heap _ _ hj'
      exact h1.congr hM hlt (lkh_below hb hj').2 (hg.block _ h1.lt hr)
  · intro i j Bi Bj hi hj e
    rcases cs i Bi hi with ⟨rfl, rfl⟩ | ⟨hi1, hi', hir⟩ <;> rcases cs j Bj hj with ⟨rfl, rfl⟩ | ⟨hj1, hj', hjr⟩
    · rfl
    · rw [hMid, hM j hj1] at e; exact absurd e.symm (hne _ _ hj' hjr)
    · rw [hMid, hM i hi1] at e; exact absurd e (hne _ _ hi' hir)
    · rw [hM i hi1, hM j hj1] at e; exact hR.inj _ _ _ _ hi' hj' e
  · intro j Bj hj hl
    rcases cs j Bj hj with ⟨rfl, rfl⟩ | ⟨hlt, hj', hr⟩
    · rw [hMid] at hl ⊢
      rcases hat with h1 | h1
      · obtain ⟨id, B0, _, h0, rfl⟩ := hgold h1
        exact hR.own _ _ h0 hl
      · have := hR.agree.size; simp only at hl; omega
    · rw [hM j hlt] at hl ⊢; exact hR.own _ _ hj' hl
  · intro j Bj hj
    rcases cs j Bj hj with ⟨rfl, rfl⟩ | ⟨hlt, hj', hr⟩
    · rw [hMid]
      rcases hat with h1 | h1
      · obtain ⟨id, B0, _, h0, rfl⟩ := hgold h1
        exact hR.apart _ _ h0
      · intro hf; have := (hR.fpok _ hf).1; simp only at this; omega
    · rw [hM j hlt]; exact hR.apart _ _ hj'
  · refine ⟨hg.os.trans hR.agree.os, hg.tape.trans hR.agree.tape, hg.output.trans hR.agree.output, Nat.le_trans hR.agree.size hg.size, ?_⟩
    intro k hk hs
    rw [hg.block k (Nat.lt_of_lt_of_le hk hR.agree.size) ?_]
    · exact hR.agree.block k hk hs
    · intro e
      cases old with
      | none => simp only at hrow; rw [hrow] at e; cases e
      | some id =>
        simp only at hrow
        obtain ⟨⟨B0, h0⟩, hr⟩ := hrow
        rw [hr] at e
        have e := Option.some.inj e
        subst e
        exact hs (hR.own _ _ h0 hk)
  · exact hL w w' fp hR.outer (fun b hb => (hR.fpok b hb).1) (fun b hb => hg.block b (hR.fpok b hb).1 (hfprow b hb))
  · intro b hb; exact ⟨Nat.lt_of_lt_of_le (hR.fpok b hb).1 hg.size, (hR.fpok b hb).2⟩

/-- What is appended: what must hold, how many, the cells. -/
def srcOf (W0 : World) (S0 : Nat → Prop) (h : List (Nat × Blk)) (sz : Nat) (x : AV) : Option (Prop × Nat × List Value) :=
  match x with
  | .sl id sz' off m =>
    match lk h id with
    | some (.row _ sz2 n vs) => some ((sz' = sz ∧ sz2 = sz) ∧ off + m ≤ n, m, (vs.drop (off * sz)).take (m * sz))
    | _ => none
  | .v (.slice (some a) m _) => some ((∀ j, j < m * sz → (W0.cell? (a.add j)).isSome) ∧ ¬ S0 a.block, m, extCells W0 a 0 (m * sz))
  | _ => none

theorem srcOf_run {C : Ctx} {M : Loc} {fp : Nat → Prop} {h : List (Nat × Blk)} {w : World} (hR : RelH C M fp h w) {sz : Nat} {x : AV} {p : Prop} {m : Nat} {news : List Value}
    (hs : srcOf C.w0 C.S0 h sz x = some (p, m, news)) (hp : p) :
    ∃ a c, conc M x = .slice (some a) m c ∧ news.length = m * sz ∧ ∀ j u, news[j]? = some u → w.cell? (a.add j) = some u := by
  unfold srcOf at hs
  split at hs <;> first | (cases hs; done) | skip
  · rename_i id sz' off m'
    split at hs <;> cases hs
    rename_i e sz2 n vs hB
    obtain ⟨⟨h1, h2⟩, h3⟩ := hp
    subst h1; subst h2
    have hb := hR.heap _ _ hB
    have hlen := hb.1
    have hle : off * sz2 + m * sz2 ≤ n * sz2 := by rw [← Nat.add_mul]; exact Nat.mul_le_mul_right _ h3
    refine ⟨⟨(M id).1, off * sz2, none⟩, (M id).2 - off, by simp only [conc], by simp; omega, ?_⟩
    intro j u hj
    rw [List.getElem?_take] at hj
    split at hj
    · rw [List.getElem?_drop] at hj
      have := row_cells hb _ _ hj
      rw [Addr.add_lit]
      rw [Nat.zero_add] at this; exact this
    · cases hj
  · rename_i a m' c
    cases hs
    refine ⟨a, c, by simp [conc], extCells_length _ _ _ _, ?_⟩
    intro j u hj
    have hlt : j < m * sz := by have := (List.getElem?_eq_some_iff.1 hj).1; rwa [extCells_length] at this
    have h0 := hp.1 j hlt
    have := extCells_get _ _ _ 0 j u hj (by simpa using h0)
    rw [Nat.zero_add] at this
    exact hR.agree.cell this (by rw [add_block]; exact hp.2)

/-- append: what must hold, the new slice, the blocks. -/
def appendOf (T : Tab) (W0 : World) (S0 : Nat → Prop) (h : List (Nat × Blk)) (nx : Nat) (t : TypeId) (s x : AV) : Option (Prop × AV × List (Nat × Blk)) :=
  match T.desc t with
  | some (.slice e) =>
    match lk T e with
    | some ⟨_, sz, bytes, z⟩ =>
      match srcOf W0 S0 h sz x with
      | some (p, m, news) =>
        match s with
        | .v (.slice none 0 0) =>
          some ((((p ∧ 0 < m) ∧ (0 < sz ∧ z.cells.size = sz)) ∧ (m ≤ maxLen ∧ m * bytes ≤ 140737488355328)) ∧ ∀ u ∈ news, u.oneCell' = true, .sl nx sz 0 m, (nx, .row e sz m news) :: h)
        | .sl id sz' 0 len =>
          match lk h id with
          | some (.row e' sz2 n vs) =>
            some (((((p ∧ len ≤ n) ∧ (sz' = sz ∧ sz2 = sz ∧ e' = e)) ∧ (0 < sz ∧ z.cells.size = sz)) ∧ (len + m ≤ maxLen ∧ (len + m) * bytes ≤ 140737488355328)) ∧ ∀ u ∈ news, u.oneCell' = true,
              .sl nx sz 0 (len + m), (nx, .row e sz (len + m) (vs.take (len * sz) ++ news)) :: rmv h id)
          | _ => none
        | _ => none
      | none => none
    | none => none
  | _ => none

theorem appendOf_run {C : Ctx} {T : Tab} (hT : tabOK C.P T) (hL : Local C.X) {M : Loc} {fp : Nat → Prop} {h h' : List (Nat × Blk)} {nx : Nat} {w : World} (hR : RelH C M fp h w) (hb : hBelow nx h = true) {t ty : TypeId} {s x z : AV} {p : Prop}
    (ha : appendOf T C.w0 C.S0 h nx t s x = some (p, z, h')) (hp : p) :
    ∃ M' w', (∀ i, i < nx → M' i = M i) ∧ (Builtin.append_ #[t, t] ty #[conc M s, conc M x]).run C.P w = .ok (conc M' z) w' ∧ RelH C M' fp h' w' := by
  unfold appendOf at ha
  split at ha <;> first | (cases ha; done) | skip
  rename_i e hd
  split at ha <;> first | (cases ha; done) | skip
  rename_i d0 s0 b0 z0 hi0
  obtain ⟨ti, hie⟩ : ∃ i : TI, i = ⟨d0, s0, b0, z0⟩ := ⟨_, rfl⟩
  have hi : lk T e = some ti := by rw [hie]; exact hi0
  obtain rfl : s0 = ti.size := by rw [hie]
  obtain rfl : z0 = ti.zero := by rw [hie]
  obtain rfl : b0 = ti.bytes := by rw [hie]
  obtain ⟨_, xi, hxi, hxs, hxb, hxz⟩ := hT e ti hi
  have hund : C.P.underlying t = some (.slice e) := by
    unfold Tab.desc at hd
    split at hd
    · rename_i hh; cases hd; exact (hT t _ hh).1
    · cases hd
  split at ha <;> first | (cases ha; done) | skip
  rename_i ps m news hs
  have fin : ∀ (old : Option Nat) (row : Option Nat) (len : Nat) (xs : List Value) (v : Value), (match old with | some id => (∃ B0, lk h id = some B0) ∧ row = some (M id).1 | none => row = none) → v.ownBlock = row → w.ownsRow 0 e ti.size v len xs → (v ≠ .slice none 0 0 ∨ 0 < m) → v = conc M s →
      ps → 0 < ti.size → ti.zero.cells.size = ti.size → len + m ≤ maxLen → (len + m) * ti.bytes ≤ 140737488355328 → (∀ u ∈ news, u.oneCell' = true) →
      z = .sl nx ti.size 0 (len + m) → h' = (nx, .row e ti.size (len + m) (xs ++ news)) :: (rmo h old) →
      ∃ M' w', (∀ i, i < nx → M' i = M i) ∧ (Builtin.append_ #[t, t] ty #[conc M s, conc M x]).run C.P w = .ok (conc M' z) w' ∧ RelH C M' fp h' w' := by
    intro old row len xs v hrow hvb hown hnn hv hps h1 h2 h3 h4 h5 hz hh'
    obtain ⟨a, c, hx, hl, hnews⟩ := srcOf_run hR hs hps
    obtain ⟨v', w', hr, hown', hgr, hnil, hat⟩ := run_append_own_at (P := C.P) w 0 t ty e xi ti.zero ti.size ti.bytes hund hxi hxz hxs hxb h2 h1 v len xs hown a m c news hl hnews h5 h3 h4 (Nat.zero_le _)
    have hv'n : v' ≠ .slice none 0 0 := by
      intro e1
      have := hnil.1 e1
      rcases hnn with h6 | h6
      · exact h6 this.1
      · omega
    rcases hown'.2 with ⟨h6, _⟩ | ⟨g, cap, cur, h6, _, hgg, hnc, hcm, hcs, htk⟩
    · exact absurd h6 hv'n
    · subst h6
      refine ⟨updM M nx (g, cap), w', fun i hi => by simp [updM, Nat.ne_of_lt hi], ?_, ?_⟩
      · rw [← hv, hx, hr, hz]; simp [conc, updM]
      · rw [hh']
        have hat' : some g = row ∨ g = w.heap.size := by
          rcases hat with h7 | h7
          · left; rw [← hvb, ← h7]; rfl
          · right; simpa [Value.ownBlock] using h7
        refine hR.grow hL hb hrow (by rw [← hvb]; exact hgr) hat' ⟨hown'.1, cur, by simpa [updM] using hgg, by simpa [updM] using hnc, by simpa [updM] using hcm, by simpa [updM] using hcs, htk⟩
  split at ha <;> first | (cases ha; done) | skip
  · cases ha
    obtain ⟨⟨⟨⟨h1, h2⟩, h3, h4⟩, h5, h6⟩, h7⟩ := hp
    exact fin none none 0 [] (.slice none 0 0) rfl rfl (World.ownsRow_nil w 0 e _) (.inr h2) (by simp [conc]) h1 h3 h4 (by omega) (by rw [Nat.zero_add]; exact h6) h7 (by rw [Nat.zero_add]) (by rw [Nat.zero_add]; rfl)
  · rename_i id sz' len
    split at ha <;> cases ha
    rename_i e' sz2 n vs hB
    obtain ⟨⟨⟨⟨⟨h1, h2⟩, h8, h9, h10⟩, h3, h4⟩, h5, h6⟩, h7⟩ := hp
    subst h8; subst h9; subst h10
    obtain ⟨hn, cur, hc, hcap, hmax, hsz, htake⟩ := hR.heap _ _ hB
    have hle : len * ti.size ≤ n * ti.size := Nat.mul_le_mul_right _ h2
    refine fin (some id) (some (M id).1) len (vs.take (len * ti.size)) (.slice (some ⟨(M id).1, 0, none⟩) len (M id).2) ⟨⟨_, hB⟩, rfl⟩ rfl ⟨by simp; omega, .inr ⟨(M id).1, (M id).2, cur, rfl, Nat.zero_le _, hc, by omega, hmax, hsz, ?_⟩⟩ (.inl (by simp)) (by simp [conc]) h1 h3 h4 h5 h6 h7 rfl rfl
    rw [← htake, List.take_take, Nat.min_eq_left hle]

/-- append of nothing. -/
theorem append_nil_run {P : Program} {T : Tab} (hT : tabOK P T) {t ty e : TypeId} (hd : T.desc t = some (.slice e)) {ti : TI} (hi : lk T e = some ti) {q : Option Addr} {n c : Nat} (hnc : n ≤ c) (hz : q = none → n = 0) (w : World) :
    (Builtin.append_ #[t, t] ty #[.slice q n c, .slice none 0 0]).run P w = .ok (.slice q n c) w := by
  have hu := tab_und hT hd
  have hs := tab_size' hT hi
  cases q <;> simp [Builtin.append_, hu, hs, Builtin.lenOf, Builtin.firstCells, hnc, storeCells]

end Go.AM

/-
  The abstract machine, sixth part: new blocks, the steps of a region, and the run that is reckoned. Own work; over any program.
-/
namespace Go.AM

def St.put (σ : St) (d : Option Nat) (z : AV) : St := match d with | some d => { σ with t := (d, z) :: σ.t } | none => σ

theorem Rel.put {C : Ctx} {M : Loc} {fp : Nat → Prop} {σ : St} {a : Act} {w : World} (hR : Rel C M fp σ a w) {d : Option Nat} {z : AV} (hd : ∀ x, d = some x → C.n.lo ≤ x ∧ x < C.n.hi) : Rel C M fp (σ.put d z) (a.put d (conc M z)) w := by
  cases d with
  | none => exact hR
  | some d =>
    have hlt : d < a.tmps.size := by rw [hR.size]; exact (hd d rfl).2
    refine { toRelH := hR.toRelH, size := by simp [Act.put, hR.size], frozen := fun i hi => by simp only [Act.put]; rw [Array.getElem?_setIfInBounds, if_neg (by have := (hd d rfl).1; omega)]; exact hR.frozen i hi, tmps := ?_, defers := hR.defers }
    intro i x hx
    simp only [St.put, lk] at hx
    simp only [Act.put]
    split at hx
    · rename_i he
      have e := Nat.eq_of_beq_eq_true he
      subst e; cases hx
      simp [hlt]
    · rename_i he
      have hne : d ≠ i := fun e => by subst e; simp at he
      rw [Array.getElem?_setIfInBounds, if_neg hne]
      exact hR.tmps i x hx

/-- What a cells' list becomes when parts are put into it. -/
def fillL (places : Nat → Option (Nat × Nat)) : List Value → List (Nat × Value) → Prop × List Value
  | cs, [] => (True, cs)
  | cs, (i, v) :: r =>
    match places i with
    | some (off, sz) => let x := fillL places (splice cs off v.cells.toList) r; (v.cells.size = sz ∧ off + sz ≤ cs.length ∧ x.1, x.2)
    | none => (False, cs)

theorem foldl_set (l : List Value) : ∀ (j o : Nat) (cs : Array Value), o + j + l.length ≤ cs.size →
    ((l.zipIdx j).foldl (fun cs (c, j) => cs.setIfInBounds (o + j) c) cs).toList = splice cs.toList (o + j) l := by
  induction l with
  | nil => intro j o cs _; simp [splice]
  | cons x r ih =>
    intro j o cs h
    simp only [List.zipIdx_cons, List.foldl_cons]
    rw [ih (j + 1) o _ (by simp at *; omega)]
    simp only [splice, Array.toList_setIfInBounds, List.length_cons] at *
    rw [List.take_set, List.drop_set, if_pos (by omega)]
    rw [List.set_eq_take_append_cons_drop, if_pos (by simp at *; omega)]
    simp only [List.take_take, List.append_assoc, List.cons_append]
    rw [show o + (j + 1) + r.length = o + j + (r.length + 1) by omega]
    congr 1
    · congr 1; omega
    · congr 1
      rw [List.drop_eq_nil_of_le (by simp; omega)]; rfl

theorem fill_run {places : Nat → Option (Nat × Nat)} : ∀ (parts : List (Nat × Value)) (cs : Array Value) (cs' : List Value), (fillL places cs.toList parts).1 → (fillL places cs.toList parts).2 = cs' →
    Instr.fill places cs parts = some cs'.toArray
  | [], cs, cs', _, h => by simp only [fillL] at h; subst h; simp [Instr.fill]
  | (i, v) :: r, cs, cs', hp, h => by
    simp only [fillL] at hp h
    simp only [Instr.fill]
    cases hq : places i with
    | none => rw [hq] at hp; exact hp.elim
    | some x =>
      obtain ⟨off, sz⟩ := x
      simp only [hq] at hp h ⊢
      obtain ⟨h1, h2, h3⟩ := hp
      have hfit : off + v.cells.size ≤ cs.size := by rw [h1]; simpa using h2
      rw [if_neg (by simp; exact ⟨h1, hfit⟩)]
      have e : (v.cells.zipIdx.foldl (fun cs (c, j) => cs.setIfInBounds (off + j) c) cs).toList = splice cs.toList off v.cells.toList := by
        have := foldl_set v.cells.toList 0 off cs (by simpa using hfit)
        rw [← Array.foldl_toList, Array.toList_zipIdx]
        exact this
      refine fill_run r _ cs' ?_ ?_
      · rw [e]; exact h3
      · rw [e]; exact h

/-- Plain parts. -/
def plainParts (σ : St) : List (Nat × Operand) → Option (List (Nat × Value))
  | [] => some []
  | (i, x) :: r => match σ.ev x with
    | some y => (match y.toV with | some v => (match plainParts σ r with | some l => some ((i, v) :: l) | none => none) | none => none)
    | none => none

theorem plainParts_conc {C : Ctx} {M : Loc} {σ : St} {a : Act} {w : World} (hR : RelQ C M σ a w) : ∀ {l : List (Nat × Operand)} {r : List (Nat × Value)}, plainParts σ l = some r → l.map (fun x => (x.1, a.eval x.2)) = r
  | [], r, h => by cases h; rfl
  | (i, x) :: l, r, h => by
    simp only [plainParts] at h
    split at h <;> first | (cases h; done) | skip
    rename_i y hy
    split at h <;> first | (cases h; done) | skip
    rename_i v hv
    split at h <;> cases h
    rename_i l' hl
    simp [plainParts_conc hR hl, hR.ev hy, AV.toV_conc hv]

/-- A struct or array built of plain parts. -/
def evBuild (T : Tab) (t : TypeId) (parts : List (Nat × Value)) : Option (Prop × AV) :=
  match lk T t with
  | some ⟨d, _, _, z⟩ =>
    match d with
    | .struct fs =>
      let x := fillL (fun j => match fs[j]? with | some f => (match T.size f.type with | some n => some (f.offset, n) | none => none) | none => none) z.cells.toList parts
      some ((∀ f ∈ fs, T.size f.type ≠ none) ∧ x.1, .v (.agg x.2.toArray))
    | .array _ e =>
      match T.size e with
      | some n => let x := fillL (fun j => some (j * n, n)) z.cells.toList parts; some (x.1, .v (.agg x.2.toArray))
      | none => none
    | _ => none
  | none => none

theorem mapM_sizes {P : Program} {T : Tab} (hT : tabOK P T) (w : World) (fs : List Field) (h : ∀ f ∈ fs, T.size f.type ≠ none) :
    (fs.mapM (fun f : Field => (Prod.mk f.offset <$> sizeOf f.type : Sem (Nat × Nat)))).run P w = .ok (fs.map fun f => (f.offset, (T.size f.type).getD 0)) w := by
  induction fs with
  | nil => simp
  | cons f r ih =>
    have h1 : ∃ n, T.size f.type = some n := by
      cases hn : T.size f.type with
      | none => exact absurd hn (h f (by simp))
      | some n => exact ⟨n, rfl⟩
    obtain ⟨n, hn⟩ := h1
    have ih' := ih (fun g hg => h g (by simp [hg]))
    simp only [List.mapM_cons, Sem.run_bind, Sem.run_map, tab_size hT hn, Result.andThen_ok, ih', Sem.run_pure, List.map_cons, hn, Option.getD_some]

theorem tab_zero {P : Program} {T : Tab} (hT : tabOK P T) {t : Nat} {i : TI} (h : lk T t = some i) (w : World) : (zeroValue t).run P w = .ok i.zero w := by
  obtain ⟨_, x, hx, _, _, hz⟩ := hT t i h
  simp [zeroValue, typeInfo, hx, hz]

theorem evBuild_run {P : Program} {T : Tab} (hT : tabOK P T) {M : Loc} {t : TypeId} {parts : Array (Nat × Value)} {p : Prop} {z : AV} (h : evBuild T t parts.toList = some (p, z)) (hp : p) (w : World) :
    (Instr.build t parts).run P w = .ok (conc M z) w := by
  unfold evBuild at h
  split at h <;> first | (cases h; done) | skip
  rename_i d0 s0 b0 z0 hi0
  obtain ⟨i, hie⟩ : ∃ i : TI, i = ⟨d0, s0, b0, z0⟩ := ⟨_, rfl⟩
  have hi : lk T t = some i := by rw [hie]; exact hi0
  have hid : i.d = d0 := by rw [hie]
  have hiz : z0 = i.zero := by rw [hie]
  subst hiz
  have hu := run_underlying (hT t i hi).1 w
  split at h <;> first | (cases h; done) | skip
  · rename_i fs
    have hd := hid
    cases h
    obtain ⟨h1, h2⟩ := hp
    have hm := mapM_sizes hT w fs.toList (by simpa using h1)
    have hm' : (fs.mapM (fun f : Field => (Prod.mk f.offset <$> sizeOf f.type : Sem (Nat × Nat)))).run P w = .ok (fs.map fun f => (f.offset, (T.size f.type).getD 0)) w := by
      rw [Array.mapM_eq_mapM_toList]
      simp only [Sem.run_map, hm, Result.andThen_ok]
      congr 1
      apply Array.ext'; simp
    have hpl : (fun (j : Nat) => (fs.map fun (f : Field) => (f.offset, (T.size f.type).getD 0))[j]?) = (fun (j : Nat) => match fs[j]? with | some f => (match T.size f.type with | some n => some (f.offset, n) | none => none) | none => none) := by
      funext j
      rw [Array.getElem?_map]
      cases hj : fs[j]? with
      | none => rfl
      | some f =>
        simp only [Option.map_some]
        cases hn : T.size f.type with
        | none => exact absurd hn (h1 f (Array.mem_of_getElem? hj))
        | some n => rfl
    have hf := fill_run parts.toList i.zero.cells _ h2 rfl
    have hpl' : (fun (j : Nat) => Option.map (fun (f : Field) => (f.offset, (T.size f.type).getD 0)) fs[j]?) = (fun (j : Nat) => match fs[j]? with | some f => (match T.size f.type with | some n => some (f.offset, n) | none => none) | none => none) := by
      rw [← hpl]; funext j; rw [Array.getElem?_map]
    rw [← hpl'] at hf
    simp [Instr.build, tab_zero hT hi, hu, hd, hm', hf, conc]
    rw [hpl']
  · rename_i n e
    have hd := hid
    split at h <;> first | (cases h; done) | skip
    rename_i m hm
    cases h
    have hf := fill_run parts.toList i.zero.cells _ hp rfl
    simp [Instr.build, tab_zero hT hi, hu, hd, tab_size hT hm, hf, conc]

/-- The parts of a new variable. -/
def segsOf (T : Tab) (t : TypeId) (x : AV) : Option (Prop × List Seg) :=
  match lk T t with
  | some ⟨d, sz, _, _⟩ =>
    match oneCellTy d with
    | true => some (okCell x, [.one x])
    | false => match x with
      | .v (.agg arr) => some (arr.size = sz, [.vals sz arr.toList])
      | _ => none
  | none => none

theorem segsOf_conc {T : Tab} {M : Loc} {t : TypeId} {x : AV} {p : Prop} {l : List Seg} (h : segsOf T t x = some (p, l)) (hp : p) : concSegs M l = (conc M x).cells.toList ∧ segsOK l := by
  unfold segsOf at h
  split at h <;> first | (cases h; done) | skip
  rename_i hi
  split at h
  · cases h
    exact ⟨by rw [(okCell_cells (M := M) hp).1]; simp [concSegs], trivial⟩
  · split at h <;> cases h
    exact ⟨by simp [concSegs, conc, Value.cells], by simpa using hp, trivial⟩

/-- A new block's zeros. -/
def repL (n : Nat) (z : List Value) : List Value := match n with | 0 => [] | n + 1 => z ++ repL n z

theorem repL_length (n : Nat) (z : List Value) : (repL n z).length = n * z.length := by
  induction n with
  | zero => simp [repL]
  | succ n ih => simp [repL, ih, Nat.succ_mul]; omega

theorem repL_get (z : Array Value) : ∀ (n j : Nat), j < n * z.size → (repL n z.toList)[j]? = some (z[j % z.size]!)
  | 0, j, h => by omega
  | n + 1, j, h => by
    simp only [repL]
    have hz : 0 < z.size := by
      rcases Nat.eq_zero_or_pos z.size with h0 | h0
      · rw [h0] at h; omega
      · exact h0
    by_cases hj : j < z.size
    · rw [List.getElem?_append_left (by simpa using hj), Nat.mod_eq_of_lt hj]
      simp [hj]
    · rw [List.getElem?_append_right (by simp; omega), Array.length_toList, repL_get z n (j - z.size) (by rw [Nat.succ_mul] at h; omega)]
      congr 2
      conv => rhs; rw [show j = j - z.size + z.size by omega, Nat.add_mod_right]

theorem zeros_eq (z : Array Value) (n : Nat) : ((Array.range (n * z.size)).map (fun j => z[j % z.size]!)).toList = repL n z.toList := by
  apply List.ext_getElem?
  intro j
  by_cases hj : j < n * z.size
  · rw [repL_get z n j hj]; simp [hj]
  · rw [List.getElem?_eq_none (by simpa using hj), List.getElem?_eq_none (by rw [repL_length]; simpa using hj)]

structure Eff where
  p : Prop
  z : AV
  h : List (Nat × Blk)
  new : Bool
  cap : Nat

/-- An operation that turns or makes a block. -/
def evEff (T : Tab) (W0 : World) (S0 : Nat → Prop) (t0 : List (Nat × AV)) (h0 : List (Nat × Blk)) (n0 : Nat) (o : Oper) : Option Eff :=
  match o.op with
  | .store t x y =>
    match St.ev ⟨t0, h0, n0⟩ x, St.ev ⟨t0, h0, n0⟩ y with
    | some a, some b => match storeOf T h0 t a b with | some (p, h) => some ⟨p, .v undef, h, false, 0⟩ | none => none
    | _, _ => none
  | .alloc t =>
    match lk T t with
    | some ⟨_, _, _, z⟩ => match segsOf T t (ofConst z) with
      | some (p, l) => some ⟨p, .ptr n0 0, (n0, .cells t l) :: h0, true, 0⟩
      | none => none
    | none => none
  | .box t x =>
    match St.ev ⟨t0, h0, n0⟩ x with
    | some y => match segsOf T t y with
      | some (p, l) => match belowSegs n0 l with
        | true => some ⟨p, .ptr n0 0, (n0, .cells t l) :: h0, true, 0⟩
        | false => none
      | none => none
    | none => none
  | .build t parts =>
    match plainParts ⟨t0, h0, n0⟩ parts.toList with
    | some l => match evBuild T t l with | some (p, z) => some ⟨p, z, h0, false, 0⟩ | none => none
    | none => none
  | .buildSlice t len parts =>
    match T.desc t with
    | some (.slice e) =>
      match lk T e with
      | some ⟨_, sz, _, z⟩ =>
        match plainParts ⟨t0, h0, n0⟩ parts.toList with
        | some l =>
          let x := fillL (fun j => some (j * sz, sz)) (repL len z.cells.toList) l
          some ⟨(len * sz ≤ 2 ^ 24 ∧ len ≤ maxLen ∧ z.cells.size = sz ∧ 0 < sz) ∧ x.1, .sl n0 sz 0 len, (n0, .row e sz len x.2) :: h0, true, len⟩
        | none => none
      | none => none
    | _ => none
  | .call c =>
    match c.callee with
    | .builtin .append =>
      match c.args.toList, c.argTypes.toList with
      | [s, x], [t, t'] =>
        match Nat.beq t' t with
        | true =>
          match St.ev ⟨t0, h0, n0⟩ s, St.ev ⟨t0, h0, n0⟩ x with
          | some y, some (.v (.slice none 0 0)) =>
            match T.desc t with
            | some (.slice e) =>
              match lk T e with
              | some ⟨_, _, _, _⟩ =>
                match y with
                | .v (.slice none 0 0) => some ⟨True, .v (.slice none 0 0), h0, false, 0⟩
                | .sl id sz 0 len => match lk h0 id with
                  | some (.row _ _ n _) => some ⟨len ≤ n, .sl id sz 0 len, h0, false, 0⟩
                  | _ => none
                | _ => none
              | none => none
            | _ => none
          | some y, some z =>
            match appendOf T W0 S0 h0 n0 t y z with
            | some (p, z, h) => some ⟨p, z, h, true, 0⟩
            | none => none
          | _, _ => none
        | false => none
      | _, _ => none
    | _ => none
  | _ => none

theorem fillL_length {places : Nat → Option (Nat × Nat)} : ∀ (parts : List (Nat × Value)) (cs : List Value), (fillL places cs parts).1 → (fillL places cs parts).2.length = cs.length
  | [], cs, _ => rfl
  | (i, v) :: r, cs, hp => by
    simp only [fillL] at hp ⊢
    cases hq : places i with
    | none => simp [hq] at hp
    | some x =>
      obtain ⟨off, sz⟩ := x
      simp only [hq] at hp ⊢
      have hfit : off + v.cells.toList.length ≤ cs.length := by simpa [hp.1] using hp.2.1
      rw [fillL_length r _ hp.2.2, splice_length hfit]

theorem newBlk {C : Ctx} (hL : Local C.X) {M : Loc} {fp : Nat → Prop} {σ : St} {a : Act} {w : World} (hR : Rel C M fp σ a w) (hb : σ.bel = true) {cs : Array Value} {e : TypeId} {B : Blk} {cap : Nat}
    (hB : BlkAt (updM M σ.nx (w.heap.size, cap)) (w.alloc (.cells cs e)) σ.nx B) :
    Rel C (updM M σ.nx (w.heap.size, cap)) fp { σ with h := (σ.nx, B) :: σ.h, nx := σ.nx + 1 } a (w.alloc (.cells cs e)) := by
  unfold St.bel at hb
  split at hb <;> first | (cases hb; done) | skip
  rename_i ht
  refine { toRelH := hR.toRelH.new hL hb rfl rfl rfl (by simp) (fun k hk => heap_alloc_old w _ k hk) hB, size := hR.size, frozen := hR.frozen, tmps := ?_, defers := hR.defers }
  intro i x hx
  rw [hR.tmps i x hx]
  congr 1
  exact (conc_congr (fun j hj => by simp [updM, Nat.ne_of_lt hj]) x (lk_below ht hx)).symm

def Eff.next (E : Eff) (σ : St) : St := ⟨σ.t, E.h, match E.new with | true => σ.nx + 1 | false => σ.nx⟩

theorem run_buildSlice {P : Program} {T : Tab} (hT : tabOK P T) {t e : TypeId} {i : TI} {len : Nat} (hd : T.desc t = some (.slice e)) (hi : lk T e = some i) (h1 : len * i.size ≤ 2 ^ 24)
    {parts : Array (Nat × Value)} {cells : Array Value}
    (hf : Instr.fill (fun j => some (j * i.size, i.size)) ((Array.range (len * i.size)).map (fun j => i.zero.cells[j % i.zero.cells.size]!)) parts.toList = some cells) (w : World) :
    (Instr.buildSlice t len parts).run P w = .ok (.slice (some ⟨w.heap.size, 0, none⟩) len len) (w.alloc (.cells cells e)) := by
  have h1' : ¬ len * i.size > 16777216 := by omega
  by_cases h0 : len * i.size = 0
  · rw [h0] at hf
    simp only [Instr.buildSlice, Sem.run_bind, tab_und hT hd, tab_size' hT hi, Result.andThen_ok, h0]
    have hr : Array.range 0 = #[] := rfl
    rw [hr, List.map_toArray, List.map_nil] at hf
    simp [newRow, hr, hf]
  · simp [Instr.buildSlice, tab_und hT hd, tab_size' hT hi, h1', h0, tab_zero hT hi, hf, newRow]

theorem evEff_run {C : Ctx} {T : Tab} (hT : tabOK C.P T) (hL : Local C.X) {M : Loc} {fp : Nat → Prop} {σ : St} {a : Act} {w : World} (hR : Rel C M fp σ a w) {o : Oper} {E : Eff}
    (h : evEff T C.w0 C.S0 σ.t σ.h σ.nx o = some E) (hp : E.p) (hb : E.new = true → σ.bel = true) :
    ∃ M' w' v, (∀ i, i < σ.nx → M' i = M i) ∧ (execOp a.eval o).run C.P w = .ok v w' ∧ (v = .value (conc M' E.z) ∨ (v = .skip ∧ E.z = .v undef)) ∧ Rel C M' fp (E.next σ) a w' := by
  unfold evEff at h
  split at h
  · rename_i t x y ho
    split at h <;> first | (cases h; done) | skip
    rename_i u v hu hv
    split at h <;> first | (cases h; done) | skip
    rename_i p h' hs
    cases h
    obtain ⟨w', hw, hR'⟩ := storeOf_run hT hL hR.toRelH hs hp
    refine ⟨M, w', .skip, fun _ _ => rfl, ?_, .inr ⟨rfl, rfl⟩, ⟨hR', hR.size, hR.frozen, hR.tmps, hR.defers⟩⟩
    simp [execOp, ho, hR.q.ev hu, hR.q.ev hv, hw]
  · rename_i t ho
    split at h <;> first | (cases h; done) | skip
    rename_i d0 s0 b0 z0 hi
    split at h <;> first | (cases h; done) | skip
    rename_i p l hs
    cases h
    have hc := fun M => segsOf_conc (M := M) hs hp
    refine ⟨updM M σ.nx (w.heap.size, 0), w.alloc (.cells z0.cells t), _, fun j hj => by simp [updM, Nat.ne_of_lt hj], ?_, .inl rfl, newBlk hL hR (hb rfl) (B := .cells t l) ⟨?_, (hc M).2⟩⟩
    · simp [execOp, ho, Instr.alloc, tab_zero hT hi, newVar, newRow, conc, updM]
    · rw [(hc _).1, conc_ofConst]
      simp only [updM, if_true]
      rw [heap_alloc_new]
  · rename_i t x ho
    split at h <;> first | (cases h; done) | skip
    rename_i y hy
    split at h <;> first | (cases h; done) | skip
    rename_i p l hs
    split at h <;> first | (cases h; done) | skip
    rename_i hbl
    cases h
    have hc := fun M => segsOf_conc (M := M) hs hp
    refine ⟨updM M σ.nx (w.heap.size, 0), w.alloc (.cells (conc M y).cells t), _, fun j hj => by simp [updM, Nat.ne_of_lt hj], ?_, .inl rfl, newBlk hL hR (hb rfl) (B := .cells t l) ⟨?_, (hc M).2⟩⟩
    · simp [execOp, ho, hR.q.ev hy, Instr.box, newVar, newRow, conc, updM]
    · rw [concSegs_congr (M := M) (n := σ.nx) (fun j hj => by simp [updM, Nat.ne_of_lt hj]) l hbl, (hc _).1]
      simp only [updM, if_true]
      rw [heap_alloc_new]
  · rename_i t parts ho
    split at h <;> first | (cases h; done) | skip
    rename_i l hl
    split at h <;> first | (cases h; done) | skip
    rename_i p z hz
    cases h
    have hc := plainParts_conc hR.q hl
    have e : (parts.map fun x => (x.1, a.eval x.2)).toList = l := by rw [← hc]; simp
    have := evBuild_run hT (M := M) (parts := parts.map fun x => (x.1, a.eval x.2)) (by rw [e]; exact hz) hp w
    refine ⟨M, w, _, fun _ _ => rfl, ?_, .inl rfl, ⟨hR.toRelH, hR.size, hR.frozen, hR.tmps, hR.defers⟩⟩
    simp [execOp, ho, this]
  · rename_i t len parts ho
    split at h <;> first | (cases h; done) | skip
    rename_i e hd
    split at h <;> first | (cases h; done) | skip
    rename_i d0 s0 b0 z0 hi0
    obtain ⟨i, hie⟩ : ∃ i : TI, i = ⟨d0, s0, b0, z0⟩ := ⟨_, rfl⟩
    have hi : lk T e = some i := by rw [hie]; exact hi0
    obtain rfl : s0 = i.size := by rw [hie]
    obtain rfl : z0 = i.zero := by rw [hie]
    split at h <;> first | (cases h; done) | skip
    rename_i l hl
    cases h
    obtain ⟨⟨h1, h2, h3, _⟩, h5⟩ := hp
    have hc := plainParts_conc hR.q hl
    have ep : (parts.map fun x => (x.1, a.eval x.2)).toList = l := by rw [← hc]; simp
    have hz : ((Array.range (len * i.size)).map (fun j => i.zero.cells[j % i.zero.cells.size]!)).toList = repL len i.zero.cells.toList := by
      rw [← h3]; exact zeros_eq _ _
    have hf := fill_run (places := fun j => some (j * i.size, i.size)) l ((Array.range (len * i.size)).map (fun j => i.zero.cells[j % i.zero.cells.size]!))
      (fillL (fun j => some (j * i.size, i.size)) (repL len i.zero.cells.toList) l).2 (by rw [hz]; exact h5) (by rw [hz])
    have hlen : (fillL (fun j => some (j * i.size, i.size)) (repL len i.zero.cells.toList) l).2.length = len * i.size := by
      rw [fillL_length _ _ h5, repL_length, Array.length_toList, h3]
    refine ⟨updM M σ.nx (w.heap.size, len), w.alloc (.cells (fillL (fun j => some (j * i.size, i.size)) (repL len i.zero.cells.toList) l).2.toArray e), _, fun j hj => by simp [updM, Nat.ne_of_lt hj], ?_, .inl rfl,
      newBlk hL hR (hb rfl) (B := .row e i.size len _) ⟨hlen, (fillL (fun j => some (j * i.size, i.size)) (repL len i.zero.cells.toList) l).2.toArray, ?_, ?_, ?_, ?_, ?_⟩⟩
    · have := run_buildSlice hT hd hi h1 (parts := parts.map fun x => (x.1, a.eval x.2)) (by rw [ep]; exact hf) w
      simp [execOp, ho, this, conc, updM]
    · simp only [updM, if_true]; exact heap_alloc_new _ _
    · simp [updM]
    · simpa [updM] using h2
    · simp [updM, hlen]
    · rw [List.toList_toArray, ← hlen, List.take_length]
  · rename_i c ho
    split at h <;> first | (cases h; done) | skip
    rename_i hc
    split at h <;> first | (cases h; done) | skip
    rename_i s x t t' hargs htys
    split at h <;> first | (cases h; done) | skip
    rename_i htt
    have := Nat.eq_of_beq_eq_true htt
    subst this
    have e1 : c.args = #[s, x] := by apply Array.ext'; simpa using hargs
    have e2 : c.argTypes = #[t', t'] := by apply Array.ext'; simpa using htys
    have key : ∀ (w' : World) (u v : Value) (z : Value), a.eval s = u → a.eval x = v → (Builtin.append_ #[t', t'] o.type #[u, v]).run C.P w = .ok z w' → (execOp a.eval o).run C.P w = .ok (.value z) w' := by
      intro w' u v z h1 h2 h3
      simp [execOp, ho, resolve, hc, invoke, builtin, e1, e2, h1, h2, h3]
    split at h <;> first | (cases h; done) | skip
    · rename_i y hs hx
      split at h <;> first | (cases h; done) | skip
      rename_i e hd
      split at h <;> first | (cases h; done) | skip
      rename_i hi
      split at h <;> first | (cases h; done) | skip
      · cases h
        refine ⟨M, w, _, fun _ _ => rfl, key _ _ _ _ (hR.q.ev hs) (hR.q.ev hx) ?_, .inl rfl, hR⟩
        simp only [conc]
        exact append_nil_run hT hd hi (Nat.le_refl _) (fun _ => rfl) w
      · rename_i id sz len
        split at h <;> cases h
        rename_i n vs hB
        refine ⟨M, w, _, fun _ _ => rfl, key _ _ _ _ (hR.q.ev hs) (hR.q.ev hx) ?_, .inl rfl, hR⟩
        simp only [conc]
        obtain ⟨_, cur, _, hcap, _⟩ := hR.heap _ _ hB
        exact append_nil_run hT hd hi (by have : len ≤ n := hp; omega) (fun e => by cases e) w
    · rename_i y z _ hs hx
      split at h <;> cases h
      rename_i p z' h' ha
      have hb' := hb rfl
      unfold St.bel at hb'
      split at hb' <;> first | (cases hb'; done) | skip
      rename_i ht
      obtain ⟨M', w', hM, hrun, hR'⟩ := appendOf_run hT hL (ty := o.type) hR.toRelH hb' ha hp
      refine ⟨M', w', _, hM, key _ _ _ _ (hR.q.ev hs) (hR.q.ev hx) hrun, .inl rfl, ⟨hR', hR.size, hR.frozen, ?_, hR.defers⟩⟩
      intro i u hu
      rw [hR.tmps i u hu]
      congr 1
      exact (conc_congr hM u (lk_below ht hu)).symm
  · cases h

end Go.AM

/-
  The abstract machine, seventh part: the run that is reckoned: straight code, its branches by a list of decisions. Own work; over any program.
-/
namespace Go.AM

section steps
variable {P : Program} {b : Frame} {a : Act} {k : List Item} {cs : List Frame} {w w' : World} {ops : Array Oper} {i : Nat} {rest : List Nat} {o : Oper}

theorem step_value {v : Value} (ho : ops[i]? = some o) (hw : Region.wanted o (yielded ops a.tmps) = true) (hnd : ∀ c, o.op ≠ .defer c) (hr : (execOp a.eval o).run P w = .ok (.value v) w') :
    step P (lone (b.atR a (.inRegion ops (i :: rest) :: k)) cs w) = .next (lone (b.atR (a.put o.dst v) (.inRegion ops rest :: k)) cs w') := by
  have hg := stepGR_op (P := P) (b := b) (k := k) (cs := cs) (w := w) (rest := rest) ho hw
  rw [Oper.semAt_eq _ _ _ hnd] at hg
  have hfin : (b.atR a (.inRegion ops (i :: rest) :: k)).finish v = b.atR (a.put o.dst v) (.inRegion ops rest :: k) := by rw [Frame.finish_atR, ho]; rfl
  exact step_lone_go (by rw [hg, ← hfin]; simp [stepG.apply, hr])

theorem step_skipped (ho : ops[i]? = some o) (hw : Region.wanted o (yielded ops a.tmps) = true) (hnd : ∀ c, o.op ≠ .defer c) (hr : (execOp a.eval o).run P w = .ok .skip w') :
    step P (lone (b.atR a (.inRegion ops (i :: rest) :: k)) cs w) = .next (lone (b.atR (a.put o.dst undef) (.inRegion ops rest :: k)) cs w') := by
  have hg := stepGR_op (P := P) (b := b) (k := k) (cs := cs) (w := w) (rest := rest) ho hw
  rw [Oper.semAt_eq _ _ _ hnd] at hg
  have hfin : (b.atR a (.inRegion ops (i :: rest) :: k)).finish undef = b.atR (a.put o.dst undef) (.inRegion ops rest :: k) := by rw [Frame.finish_atR, ho]; rfl
  exact step_lone_go (by rw [hg, ← hfin]; simp [stepG.apply, hr])

theorem step_unwanted (ho : ops[i]? = some o) (hw : Region.wanted o (yielded ops a.tmps) = false) :
    step P (lone (b.atR a (.inRegion ops (i :: rest) :: k)) cs w) = .next (lone (b.atR (a.put o.dst undef) (.inRegion ops rest :: k)) cs w) := by
  have := stepR_op_skip (P := P) (b := b) (a := a) (k := k) (cs := cs) (w := w) (ops := ops) (i := i) (rest := rest) (by simp [ho]; simpa using hw)
  simpa [ho] using this
end steps

/-- Is an operation wanted? 'some none': it is not decided. -/
inductive Want where
  | yes
  | no
  | ask (d : Nat) (b : Bool)

def wantOf (ops : Array Oper) (σ : St) (o : Oper) : Option Want :=
  match o.guard with
  | none => some .yes
  | some (j, want) =>
    match ops[j]? with
    | some oj =>
      match oj.dst with
      | some d =>
        match lk σ.t d with
        | some (.tt b) => match b, want with
          | true, true => some .yes
          | false, false => some .yes
          | _, _ => some .no
        | some (.v (.bool b)) => some (.ask d b)
        | some (.v (.tuple _)) => some .no
        | _ => none
      | none => none
    | none => none

theorem wantOf_yes {C : Ctx} {M : Loc} {σ : St} {a : Act} {w : World} (hR : RelQ C M σ a w) {ops : Array Oper} {o : Oper} (h : wantOf ops σ o = some .yes) :
    Region.wanted o (yielded ops a.tmps) = true := by
  unfold wantOf at h
  unfold Region.wanted
  split at h
  · rename_i hg; simp [hg]
  · rename_i j want hg
    simp only [hg]
    split at h <;> first | (cases h; done) | skip
    rename_i oj hj
    split at h <;> first | (cases h; done) | skip
    rename_i d hd
    split at h <;> first | (cases h; done) | skip
    rename_i b hb
    have := hR.tmps _ _ hb
    split at h <;> first | (cases h; done) | simp [yielded, hj, hd, this, conc]

theorem wantOf_no {C : Ctx} {M : Loc} {σ : St} {a : Act} {w : World} (hR : RelQ C M σ a w) {ops : Array Oper} {o : Oper} (h : wantOf ops σ o = some .no) :
    Region.wanted o (yielded ops a.tmps) = false := by
  unfold wantOf at h
  unfold Region.wanted
  split at h
  · cases h
  · rename_i j want hg
    simp only [hg]
    split at h <;> first | (cases h; done) | skip
    rename_i oj hj
    split at h <;> first | (cases h; done) | skip
    rename_i d hd
    split at h <;> first | (cases h; done) | skip
    · rename_i b hb
      have := hR.tmps _ _ hb
      cases b <;> cases want <;> simp_all [yielded, conc]
    · rename_i l hb
      have := hR.tmps _ _ hb
      simp [yielded, hj, hd, this, conc]

theorem wantOf_ask {ops : Array Oper} {σ : St} {o : Oper} {d : Nat} {b : Bool} (h : wantOf ops σ o = some (.ask d b)) : lk σ.t d = some (.v (.bool b)) := by
  unfold wantOf at h
  split at h
  · cases h
  · split at h <;> first | (cases h; done) | skip
    split at h <;> first | (cases h; done) | skip
    split at h <;> first | (cases h; done) | skip
    · split at h <;> cases h
    · rename_i hb; cases h; exact hb

/-- A bool that has been decided is noted. -/
theorem Rel.decide {C : Ctx} {M : Loc} {fp : Nat → Prop} {σ : St} {a : Act} {w : World} (hR : Rel C M fp σ a w) {d : Nat} {b x : Bool} (hd : lk σ.t d = some (.v (.bool b))) (hb : b = x) :
    Rel C M fp (σ.put (some d) (.tt x)) a w := by
  refine { toRelH := hR.toRelH, size := hR.size, frozen := hR.frozen, tmps := ?_, defers := hR.defers }
  intro i y hy
  simp only [St.put, lk] at hy
  split at hy
  · rename_i he
    have e := Nat.eq_of_beq_eq_true he
    subst e; cases hy
    rw [hR.tmps _ _ hd, hb]; rfl
  · exact hR.tmps i y hy

/-- A choice whose bool is not decided. -/
def pickAsk (σ : St) (o : Oper) : Option (Nat × Bool) :=
  match o.op with
  | .pick (.tmp c) _ _ => match lk σ.t c with | some (.v (.bool b)) => some (c, b) | _ => none
  | _ => none

theorem pickAsk_lk {σ : St} {o : Oper} {d : Nat} {b : Bool} (h : pickAsk σ o = some (d, b)) : lk σ.t d = some (.v (.bool b)) := by
  unfold pickAsk at h
  split at h <;> first | (cases h; done) | skip
  split at h <;> cases h
  rename_i hb; exact hb

abbrev Got := Option (Prop × List Item × St)
def Got.with (p : Prop) : Got → Got
  | some (q, t, s) => some (p ∧ q, t, s)
  | none => none

def okD (n : Lim) (d : Nat) : Bool := match Nat.ble n.lo d with | true => Nat.blt d n.hi | false => false

def dstOK (n : Lim) : Option Nat → Bool
  | none => true
  | some d => okD n d

/-- A value's head laid bare. -/
def force {α : Type} (z : AV) (K : AV → α) : α :=
  match z with
  | .v x => K (.v x)
  | .tt true => K (.tt true)
  | .tt false => K (.tt false)
  | .ptr id off => K (.ptr id off)
  | .elt id off j => K (.elt id off j)
  | .mp id => K (.mp id)
  | .sl id sz off len => K (.sl id sz off len)
  | .fn f caps => K (.fn f caps)
  | .agg l => K (.agg l)
  | .tup l => K (.tup l)

theorem force_eq {α : Type} (z : AV) (K : AV → α) : force z K = K z := by
  unfold force
  cases z <;> try rfl
  rename_i b; cases b <;> rfl

def forceSegs {α : Type} : List Seg → (List Seg → α) → α
  | [], K => K []
  | .one x :: r, K => forceSegs r fun r => force x fun x => K (.one x :: r)
  | .vals n vs :: r, K => forceSegs r fun r => K (.vals n vs :: r)

theorem forceSegs_eq {α : Type} : ∀ (l : List Seg) (K : List Seg → α), forceSegs l K = K l
  | [], _ => rfl
  | .one x :: r, K => by simp only [forceSegs, forceSegs_eq r, force_eq]
  | .vals n vs :: r, K => by simp only [forceSegs, forceSegs_eq r]

def forceH {α : Type} : List (Nat × Blk) → (List (Nat × Blk) → α) → α
  | [], K => K []
  | (i, .cells e s) :: r, K => forceH r fun r => forceSegs s fun s => K ((i, .cells e s) :: r)
  | (i, .row e sz n vs) :: r, K => forceH r fun r => K ((i, .row e sz n vs) :: r)
  | (i, .map es) :: r, K => forceH r fun r => K ((i, .map es) :: r)
  | (i, .rowA e sz n xs) :: r, K => forceH r fun r => K ((i, .rowA e sz n xs) :: r)

theorem forceH_eq {α : Type} : ∀ (l : List (Nat × Blk)) (K : List (Nat × Blk) → α), forceH l K = K l
  | [], _ => rfl
  | (i, .cells e s) :: r, K => by simp only [forceH, forceH_eq r, forceSegs_eq]
  | (i, .row e sz n vs) :: r, K => by simp only [forceH, forceH_eq r]
  | (i, .map es) :: r, K => by simp only [forceH, forceH_eq r]
  | (i, .rowA e sz n xs) :: r, K => by simp only [forceH, forceH_eq r]

/-- The run, reckoned: straight code; branches by the decisions; it stands at a loop's head, at a call of a Go function, at whatever it does not know. -/
def RunF (T : Tab) (n : Lim) (W0 : World) (S0 : Nat → Prop) : Nat → List Bool → List Item → St → Got
  | 0, _, todo, σ => some (True, todo, σ)
  | f + 1, ds, todo, ⟨t, h, nx⟩ =>
    match todo with
    | .code c :: k =>
      match c with
      | .skip => RunF T n W0 S0 f ds k ⟨t, h, nx⟩
      | .seq x y => RunF T n W0 S0 f ds (.code x :: .code y :: k) ⟨t, h, nx⟩
      | .block id c => RunF T n W0 S0 f ds (.code c :: .inBlock id :: k) ⟨t, h, nx⟩
      | .loop c => some (True, .code c :: .inLoop c :: k, ⟨t, h, nx⟩)
      | .exit id => match exitTo id k with | some k' => RunF T n W0 S0 f ds k' ⟨t, h, nx⟩ | none => some (True, todo, ⟨t, h, nx⟩)
      | .region _ ops false => RunF T n W0 S0 f ds (.inRegion ops (List.range ops.size) :: k) ⟨t, h, nx⟩
      | .cond x p q =>
        match St.ev ⟨t, h, nx⟩ x with
        | some (.tt true) => RunF T n W0 S0 f ds (.code p :: k) ⟨t, h, nx⟩
        | some (.tt false) => RunF T n W0 S0 f ds (.code q :: k) ⟨t, h, nx⟩
        | some (.v (.bool b)) =>
          match ds with
          | true :: ds => (RunF T n W0 S0 f ds (.code p :: k) ⟨t, h, nx⟩).with (b = true)
          | false :: ds => (RunF T n W0 S0 f ds (.code q :: k) ⟨t, h, nx⟩).with (b = false)
          | [] => some (True, todo, ⟨t, h, nx⟩)
        | _ => some (True, todo, ⟨t, h, nx⟩)
      | _ => some (True, todo, ⟨t, h, nx⟩)
    | .inBlock _ :: k => RunF T n W0 S0 f ds k ⟨t, h, nx⟩
    | .inLoop c :: k => some (True, .code c :: .inLoop c :: k, ⟨t, h, nx⟩)
    | .inRegion ops is :: k =>
      match is with
      | [] => RunF T n W0 S0 f ds k ⟨t, h, nx⟩
      | i :: rest =>
        match ops[i]? with
        | none => some (True, todo, ⟨t, h, nx⟩)
        | some ⟨dst, op, ty, pos, aft, gd⟩ =>
          match wantOf ops ⟨t, h, nx⟩ ⟨dst, op, ty, pos, aft, gd⟩ with
          | some (.ask d b) =>
            match ds with
            | true :: ds => (RunF T n W0 S0 f ds todo ⟨(d, .tt true) :: t, h, nx⟩).with (b = true)
            | false :: ds => (RunF T n W0 S0 f ds todo ⟨(d, .tt false) :: t, h, nx⟩).with (b = false)
            | [] => some (True, todo, ⟨t, h, nx⟩)
          | some .no =>
            match dst with
            | none => RunF T n W0 S0 f ds (.inRegion ops rest :: k) ⟨t, h, nx⟩
            | some d => match okD n d with | true => RunF T n W0 S0 f ds (.inRegion ops rest :: k) ⟨(d, .v undef) :: t, h, nx⟩ | false => some (True, todo, ⟨t, h, nx⟩)
          | some .yes =>
            match pickAsk ⟨t, h, nx⟩ ⟨dst, op, ty, pos, aft, gd⟩ with
            | some (d, b) =>
              match ds with
              | true :: ds => (RunF T n W0 S0 f ds todo ⟨(d, .tt true) :: t, h, nx⟩).with (b = true)
              | false :: ds => (RunF T n W0 S0 f ds todo ⟨(d, .tt false) :: t, h, nx⟩).with (b = false)
              | [] => some (True, todo, ⟨t, h, nx⟩)
            | none =>
              match evPure T W0 S0 ⟨t, h, nx⟩ ⟨dst, op, ty, pos, aft, gd⟩ with
              | some (p, z) =>
                match dst with
                | none => (RunF T n W0 S0 f ds (.inRegion ops rest :: k) ⟨t, h, nx⟩).with p
                | some d => match okD n d with | true => force z fun z => (RunF T n W0 S0 f ds (.inRegion ops rest :: k) ⟨(d, z) :: t, h, nx⟩).with p | false => some (True, todo, ⟨t, h, nx⟩)
              | none =>
                match evEff T W0 S0 t h nx ⟨dst, op, ty, pos, aft, gd⟩ with
                | some ⟨p, z, h', new, _⟩ =>
                  match new with
                  | true =>
                    match St.bel ⟨t, h, nx⟩, dst with
                    | true, some d => match okD n d with | true => force z fun z => forceH h' fun h' => (RunF T n W0 S0 f ds (.inRegion ops rest :: k) ⟨(d, z) :: t, h', nx + 1⟩).with p | false => some (True, todo, ⟨t, h, nx⟩)
                    | _, _ => some (True, todo, ⟨t, h, nx⟩)
                  | false =>
                    match dst with
                    | none => forceH h' fun h' => (RunF T n W0 S0 f ds (.inRegion ops rest :: k) ⟨t, h', nx⟩).with p
                    | some d => match okD n d with | true => force z fun z => forceH h' fun h' => (RunF T n W0 S0 f ds (.inRegion ops rest :: k) ⟨(d, z) :: t, h', nx⟩).with p | false => some (True, todo, ⟨t, h, nx⟩)
                | none => some (True, todo, ⟨t, h, nx⟩)
          | none => some (True, todo, ⟨t, h, nx⟩)
    | _ => some (True, todo, ⟨t, h, nx⟩)

theorem evPure_nd {T : Tab} {W0 : World} {S0 : Nat → Prop} {σ : St} {o : Oper} {x : Prop × AV} (h : evPure T W0 S0 σ o = some x) (c : Call) : o.op ≠ .defer c := by
  intro e
  simp [evPure, e] at h

theorem evEff_nd {T : Tab} {W0 : World} {S0 : Nat → Prop} {t0 : List (Nat × AV)} {h0 : List (Nat × Blk)} {n0 : Nat} {o : Oper} {x : Eff} (h : evEff T W0 S0 t0 h0 n0 o = some x) (c : Call) : o.op ≠ .defer c := by
  intro e
  simp [evEff, e] at h

theorem dstOK_lt {n : Lim} {d : Option Nat} (h : dstOK n d = true) : ∀ x, d = some x → n.lo ≤ x ∧ x < n.hi := by
  intro x hx; subst hx
  simp only [dstOK, okD] at h
  split at h
  · rename_i h1; exact ⟨Nat.le_of_ble_eq_true h1, by simpa using h⟩
  · cases h

theorem Got.with_some {p : Prop} {g : Got} {φ : Prop} {t : List Item} {s : St} (h : g.with p = some (φ, t, s)) : ∃ q, g = some (q, t, s) ∧ φ = (p ∧ q) := by
  cases g with
  | none => cases h
  | some x => obtain ⟨q, t', s'⟩ := x; cases h; exact ⟨q, rfl, rfl⟩

theorem RunF_sound {C : Ctx} {T : Tab} (hT : tabOK C.P T) (hL : Local C.X) : ∀ (f : Nat) (ds : List Bool) (todo : List Item) (σ : St) {φ : Prop} {todo' : List Item} {σ' : St},
    RunF T C.n C.w0 C.S0 f ds todo σ = some (φ, todo', σ') → φ → Run C todo' σ' → Run C todo σ := by
  intro f
  induction f with
  | zero => intro ds todo σ φ todo' σ' h hp hr; simp only [RunF] at h; cases h; exact hr
  | succ f ih =>
    intro ds todo σ φ todo' σ' h hp hr
    obtain ⟨t, hh, nx⟩ := σ
    simp only [RunF] at h
    split at h
    · rename_i c k
      split at h
      · exact .skip (ih _ _ _ h hp hr)
      · exact .seq (ih _ _ _ h hp hr)
      · exact .block (ih _ _ _ h hp hr)
      · cases h; exact .loop hr
      · split at h
        · rename_i hx; exact .exit hx (ih _ _ _ h hp hr)
        · cases h; exact hr
      · exact .region (ih _ _ _ h hp hr)
      · split at h
        · rename_i hx; exact .cond (d := true) hx (fun M => rfl) (ih _ _ _ h hp hr)
        · rename_i hx; exact .cond (d := false) hx (fun M => rfl) (ih _ _ _ h hp hr)
        · rename_i b hx
          split at h
          · obtain ⟨q, hg, rfl⟩ := Got.with_some h
            exact .cond (d := true) hx (fun M => by rw [hp.1]; rfl) (ih _ _ _ hg hp.2 hr)
          · obtain ⟨q, hg, rfl⟩ := Got.with_some h
            exact .cond (d := false) hx (fun M => by rw [hp.1]; rfl) (ih _ _ _ hg hp.2 hr)
          · cases h; exact hr
        · cases h; exact hr
      · cases h; exact hr
    · exact .inBlock (ih _ _ _ h hp hr)
    · cases h; exact .inLoop hr
    · rename_i ops is k
      split at h
      · exact .regionEnd (ih _ _ _ h hp hr)
      · rename_i i rest
        split at h
        · cases h; exact hr
        · rename_i dst op ty pos aft gd ho
          split at h
          · rename_i d b hw
            split at h
            · obtain ⟨q, hg, rfl⟩ := Got.with_some h
              have := ih _ _ _ hg hp.2 hr
              exact fun M fp a w hR cs => this M fp a w (hR.decide (wantOf_ask hw) hp.1) cs
            · obtain ⟨q, hg, rfl⟩ := Got.with_some h
              have := ih _ _ _ hg hp.2 hr
              exact fun M fp a w hR cs => this M fp a w (hR.decide (wantOf_ask hw) hp.1) cs
            · cases h; exact hr
          · rename_i hw
            split at h
            · have := ih _ _ _ h hp hr
              intro M fp a w hR cs
              obtain ⟨m, s, z⟩ := this M fp _ w hR cs
              exact ⟨m, .head (step_unwanted ho (wantOf_no hR.q hw)) s, z⟩
            · rename_i d
              split at h
              · rename_i hd
                have hd' : ∀ x, some d = some x → C.n.lo ≤ x ∧ x < C.n.hi := dstOK_lt (n := C.n) (d := some d) hd
                have := ih _ _ _ h hp hr
                intro M fp a w hR cs
                obtain ⟨m, s, z⟩ := this M fp _ w (hR.put (d := some d) (z := .v undef) hd') cs
                exact ⟨m, .head (step_unwanted ho (wantOf_no hR.q hw)) s, z⟩
              · cases h; exact hr
          · rename_i hw
            split at h
            · rename_i d b hpk
              split at h
              · obtain ⟨q, hg, rfl⟩ := Got.with_some h
                have := ih _ _ _ hg hp.2 hr
                exact fun M fp a w hR cs => this M fp a w (hR.decide (pickAsk_lk hpk) hp.1) cs
              · obtain ⟨q, hg, rfl⟩ := Got.with_some h
                have := ih _ _ _ hg hp.2 hr
                exact fun M fp a w hR cs => this M fp a w (hR.decide (pickAsk_lk hpk) hp.1) cs
              · cases h; exact hr
            · split at h
              · rename_i p z hev
                have go : ∀ q, RunF T C.n C.w0 C.S0 f ds (.inRegion ops rest :: k) (St.put ⟨t, hh, nx⟩ dst z) = some (q, todo', σ') → p → q → dstOK C.n dst = true → Run C (.inRegion ops (i :: rest) :: k) ⟨t, hh, nx⟩ := by
                  intro q hg hp1 hp2 hd
                  have := ih _ _ _ hg hp2 hr
                  intro M fp a w hR cs
                  obtain ⟨m, s, e⟩ := this M fp _ w (hR.put (z := z) (dstOK_lt hd)) cs
                  exact ⟨m, .head (step_value ho (wantOf_yes hR.q hw) (evPure_nd hev) (evPure_run hT hR.q hev hp1)) s, e⟩
                split at h
                · obtain ⟨q, hg, rfl⟩ := Got.with_some h
                  exact go q hg hp.1 hp.2 rfl
                · split at h
                  · rename_i hd
                    rw [force_eq] at h
                    obtain ⟨q, hg, rfl⟩ := Got.with_some h
                    exact go q hg hp.1 hp.2 hd
                  · cases h; exact hr
              · split at h
                · rename_i p z h' new cap hev
                  have go : ∀ q, RunF T C.n C.w0 C.S0 f ds (.inRegion ops rest :: k) ((Eff.next ⟨p, z, h', new, cap⟩ ⟨t, hh, nx⟩).put dst z) = some (q, todo', σ') → p → q → dstOK C.n dst = true → (new = true → St.bel ⟨t, hh, nx⟩ = true) → Run C (.inRegion ops (i :: rest) :: k) ⟨t, hh, nx⟩ := by
                    intro q hg hp1 hp2 hd hb
                    have := ih _ _ _ hg hp2 hr
                    intro M fp a w hR cs
                    obtain ⟨M', w', v, -, hrun, hv, hR'⟩ := evEff_run hT hL hR hev hp1 hb
                    obtain ⟨m, s, e⟩ := this M' fp _ w' (hR'.put (z := z) (dstOK_lt hd)) cs
                    rcases hv with rfl | ⟨rfl, hz⟩
                    · exact ⟨m, .head (step_value ho (wantOf_yes hR.q hw) (evEff_nd hev) hrun) s, e⟩
                    · simp only at hz
                      rw [hz] at s
                      exact ⟨m, .head (step_skipped ho (wantOf_yes hR.q hw) (evEff_nd hev) hrun) s, e⟩
                  split at h
                  · split at h
                    · rename_i d hb _
                      split at h
                      · rename_i hd
                        rw [force_eq, forceH_eq] at h
                        obtain ⟨q, hg, rfl⟩ := Got.with_some h
                        exact go q hg hp.1 hp.2 hd (fun _ => by assumption)
                      · cases h; exact hr
                    · cases h; exact hr
                  · split at h
                    · rw [forceH_eq] at h
                      obtain ⟨q, hg, rfl⟩ := Got.with_some h
                      exact go q hg hp.1 hp.2 rfl (fun e => by cases e)
                    · split at h
                      · rename_i hd
                        rw [force_eq, forceH_eq] at h
                        obtain ⟨q, hg, rfl⟩ := Got.with_some h
                        exact go q hg hp.1 hp.2 hd (fun e => by cases e)
                      · cases h; exact hr
                · cases h; exact hr
          · cases h; exact hr
    · cases h; exact hr

end Go.AM

/-
  The abstract machine, eighth part: entering a function, leaving it, calls by contract. Own work; over any program.
-/
namespace Go.AM

/-- The plain contract: the call hands back v, and nothing that was there has turned. -/
def Gives (P : Program) (f : FuncId) (args : List Value) (w : World) (v : Value) : Prop :=
  Calls P f args.toArray w fun e w' => e = .returned v ∧ Agree (fun _ => False) w w'

/-- The general one. -/
def GivesR (P : Program) (f : FuncId) (args : List Value) (w : World) (R : Value → World → Prop) : Prop :=
  Calls P f args.toArray w fun e w' => ∃ v, e = .returned v ∧ R v w'

theorem Calls.mono' {P : Program} {f : FuncId} {args : Array Value} {w : World} {R R' : Ending → World → Prop} (h : Calls P f args w R) (hr : ∀ e w', R e w' → R' e w') : Calls P f args w R' :=
  fun cs => let ⟨e, w', fr, r, s, x⟩ := h cs; ⟨e, w', fr, hr _ _ r, s, x⟩

theorem Gives.r {P : Program} {f : FuncId} {args : List Value} {w : World} {v : Value} (h : Gives P f args w v) : GivesR P f args w fun v' w' => v' = v ∧ Agree (fun _ => False) w w' :=
  Calls.mono' h fun _ _ ⟨h1, h2⟩ => ⟨v, h1, rfl, h2⟩

/-- The surroundings of a plain function's run. -/
def fnC (P : Program) (f : FuncId) (n : Nat) (w : World) (S0 : Nat → Prop) (X : World → (Nat → Prop) → Prop) (R : Value → World → Prop) : Ctx :=
  { P, w0 := w, S0, X, b := { (default : Frame) with fn := f, kind := .normal, roundOf := none }, n := ⟨0, n⟩, t0 := #[], ds := [],
    Z := fun cs m => ∃ v w' fr, m = lone fr cs w' ∧ fr.fn = f ∧ fr.leaving P w' (.returned v) ∧ R v w' }

@[simp] theorem fnC_w0 (P : Program) (f : FuncId) (n : Nat) (w : World) (S0 : Nat → Prop) (X : World → (Nat → Prop) → Prop) (R : Value → World → Prop) : (fnC P f n w S0 X R).w0 = w := rfl
@[simp] theorem fnC_S0 (P : Program) (f : FuncId) (n : Nat) (w : World) (S0 : Nat → Prop) (X : World → (Nat → Prop) → Prop) (R : Value → World → Prop) : (fnC P f n w S0 X R).S0 = S0 := rfl

def noX : World → (Nat → Prop) → Prop := fun _ _ => True
theorem noX_local : Local noX := fun _ _ _ _ _ _ => trivial

def argsT : Nat → List Value → List (Nat × AV)
  | _, [] => []
  | i, x :: r => (i, ofConst' x) :: argsT (i + 1) r
where ofConst' (x : Value) : AV := .v x

theorem argsT_lk : ∀ {l : List Value} {i j : Nat} {x : AV}, lk (argsT i l) j = some x → i ≤ j ∧ ∃ y, l[j - i]? = some y ∧ x = .v y
  | [], i, j, x, h => by cases h
  | y :: r, i, j, x, h => by
    simp only [argsT, lk] at h
    split at h
    · rename_i he
      have e := Nat.eq_of_beq_eq_true he
      subst e; cases h
      exact ⟨Nat.le_refl _, y, by simp, rfl⟩
    · rename_i he
      obtain ⟨h1, z, h2, h3⟩ := argsT_lk h
      refine ⟨by omega, z, ?_, h3⟩
      rw [show j - i = (j - (i + 1)) + 1 by omega]; simpa using h2

theorem calls_of_run {P : Program} {f : FuncId} {fn : Func} {c : Code} {args : List Value} {w : World} {R : Value → World → Prop} (hf : P.funcs[f]? = some fn) (hb : fn.body = some c)
    (hn : args.length ≤ fn.ntmps) (h : Run (fnC P f fn.ntmps w (fun _ => False) noX R) [.code c] ⟨argsT 0 args, [], 0⟩) : GivesR P f args w R := by
  intro cs
  let a : Act := { tmps := args.toArray ++ Array.replicate (fn.ntmps - args.length) undef, defers := [] }
  let b : Frame := { (default : Frame) with fn := f, kind := .normal, roundOf := none }
  have henter : Frame.enter P f args.toArray .normal = b.atR a [.code c] := by
    simp [Frame.enter, Frame.atR, hf, hb, b, a]
  have hR : Rel (fnC P f fn.ntmps w (fun _ => False) noX R) (fun _ => (0, 0)) (fun _ => False) ⟨argsT 0 args, [], 0⟩ a w := by
    refine { heap := fun _ _ h => (by cases h), inj := fun _ _ _ _ h => (by cases h), own := fun _ _ h => (by cases h), apart := fun _ _ h => (by cases h), agree := Agree.refl _ _, outer := trivial,
             fpok := fun _ h => h.elim, size := by simp [a, fnC]; omega, frozen := fun i hi => absurd hi (Nat.not_lt_zero _), tmps := ?_, defers := rfl }
    intro i x hx
    obtain ⟨_, y, h2, rfl⟩ := argsT_lk hx
    simp only [Nat.sub_zero] at h2
    have hlt := (List.getElem?_eq_some_iff.1 h2).1
    simp only [a]
    rw [Array.getElem?_append_left (by simpa using hlt)]
    simpa [conc] using h2
  obtain ⟨m, s, v, w', fr, rfl, h1, h2, h3⟩ := h _ _ a w hR cs
  rw [henter]
  exact ⟨.returned v, w', fr, ⟨v, rfl, h3⟩, s, h1, h2⟩

/-- What a function hands back. -/
def resOf (T : Tab) (W0 : World) (S0 : Nat → Prop) (σ : St) : List ResultVar → Option (Prop × List AV)
  | [] => some (True, [])
  | .tmp t :: r =>
    match lk σ.t t with
    | some x => (match resOf T W0 S0 σ r with | some (p, l) => some (p, x :: l) | none => none)
    | none => none
  | .cell t ty :: r =>
    match lk σ.t t with
    | some x => match loadOf T W0 S0 σ.h ty x with
      | some (p, y) => (match resOf T W0 S0 σ r with | some (q, l) => some (p ∧ q, y :: l) | none => none)
      | none => none
    | none => none

def resAV : List AV → AV
  | [x] => x
  | l => .tup l

def resSem (tmps : Array Value) : ResultVar → Sem Value
  | .tmp t => pure (tmps.getD t undef)
  | .cell x t => do loadVar t (← asAddr (tmps.getD x undef))

theorem resOf_run {C : Ctx} {T : Tab} (hT : tabOK C.P T) {M : Loc} {fp : Nat → Prop} {σ : St} {a : Act} {w : World} (hR : Rel C M fp σ a w) :
    ∀ {rs : List ResultVar} {p : Prop} {l : List AV}, resOf T C.w0 C.S0 σ rs = some (p, l) → p → (rs.mapM (resSem a.tmps)).run C.P w = .ok (concL M l) w
  | [], p, l, h, hp => by cases h; simp [concL]
  | .tmp t :: r, p, l, h, hp => by
    simp only [resOf] at h
    split at h <;> first | (cases h; done) | skip
    rename_i x hx
    split at h <;> cases h
    rename_i l' hl
    have h1 : a.tmps.getD t undef = conc M x := by rw [Array.getD_eq_getD_getElem?, hR.tmps _ _ hx]; rfl
    have ih := resOf_run hT hR hl hp
    rw [List.mapM_cons]
    have h2 : (resSem a.tmps (.tmp t)).run C.P w = .ok (conc M x) w := by simp only [resSem, h1, Sem.run_pure]
    simp only [Sem.run_bind, h2, ih, Sem.run_pure, Result.andThen_ok, concL]
  | .cell t ty :: r, p, l, h, hp => by
    simp only [resOf] at h
    split at h <;> first | (cases h; done) | skip
    rename_i x hx
    split at h <;> first | (cases h; done) | skip
    rename_i p1 y hy
    split at h <;> cases h
    rename_i q l' hl
    have h1 : a.tmps.getD t undef = conc M x := by rw [Array.getD_eq_getD_getElem?, hR.tmps _ _ hx]; rfl
    have ih := resOf_run hT hR hl hp.2
    have h2 := loadOf_run hT hR.q hy hp.1
    have h3 : (resSem a.tmps (.cell t ty)).run C.P w = .ok (conc M y) w := by
      have : ∃ ad, conc M x = .pointer (some ad) := by
        cases x <;> simp only [loadOf] at hy <;> try (cases hy; done)
        · rename_i v
          cases v <;> try (cases hy; done)
          rename_i ad
          cases ad with
          | none => cases hy
          | some ad => exact ⟨ad, rfl⟩
        · exact ⟨_, rfl⟩
        · exact ⟨_, rfl⟩
      obtain ⟨ad, had⟩ := this
      rw [had] at h1 h2
      simp only [resSem, h1]
      simpa [Instr.loadAt, Instr.sureAddr, asAddr] using h2
    rw [List.mapM_cons]
    simp only [Sem.run_bind, h3, ih, Sem.run_pure, Result.andThen_ok, concL]

theorem results_eq (fn : Func) (tmps : Array Value) : results fn tmps = (do let vs ← fn.results.mapM (resSem tmps); pure (if h : vs.size = 1 then vs[0] else .tuple vs)) := by
  unfold results
  congr 1

theorem results_run {C : Ctx} {T : Tab} (hT : tabOK C.P T) {M : Loc} {fp : Nat → Prop} {σ : St} {a : Act} {w : World} (hR : Rel C M fp σ a w) {fn : Func} {p : Prop} {l : List AV}
    (h : resOf T C.w0 C.S0 σ fn.results.toList = some (p, l)) (hp : p) : (results fn a.tmps).run C.P w = .ok (conc M (resAV l)) w := by
  have := resOf_run hT hR h hp
  rw [results_eq, Array.mapM_eq_mapM_toList]
  simp only [Sem.run_bind, Sem.run_map, this, Result.andThen_ok, Sem.run_pure]
  match l with
  | [] => rfl
  | [x] => rfl
  | x :: y :: r => rfl

theorem Run.ret {P : Program} {T : Tab} (hT : tabOK P T) {f : FuncId} {fn : Func} {n : Nat} {w0 : World} {S0 : Nat → Prop} {X : World → (Nat → Prop) → Prop} {R : Value → World → Prop} {σ : St} {k : List Item} {p : Prop} {l : List AV}
    (hf : P.funcs[f]? = some fn) (h : resOf T w0 S0 σ fn.results.toList = some (p, l)) (hp : p)
    (hR : ∀ M fp a w, Rel (fnC P f n w0 S0 X R) M fp σ a w → R (conc M (resAV l)) w) : Run (fnC P f n w0 S0 X R) (.code .ret :: k) σ := by
  intro M fp a w hr cs
  refine ⟨_, .one (stepR_ret rfl), _, w, _, rfl, rfl, ⟨rfl, hr.defers, rfl, fn, hf, ?_⟩, hR M fp a w hr⟩
  exact results_run hT hr (fn := fn) h hp

theorem Run.fin {P : Program} {T : Tab} (hT : tabOK P T) {f : FuncId} {fn : Func} {n : Nat} {w0 : World} {S0 : Nat → Prop} {X : World → (Nat → Prop) → Prop} {R : Value → World → Prop} {σ : St} {p : Prop} {l : List AV}
    (hf : P.funcs[f]? = some fn) (h : resOf T w0 S0 σ fn.results.toList = some (p, l)) (hp : p)
    (hR : ∀ M fp a w, Rel (fnC P f n w0 S0 X R) M fp σ a w → R (conc M (resAV l)) w) : Run (fnC P f n w0 S0 X R) [] σ := by
  intro M fp a w hr cs
  refine ⟨_, .one (stepR_end rfl), _, w, _, rfl, rfl, ⟨rfl, hr.defers, rfl, fn, hf, ?_⟩, hR M fp a w hr⟩
  exact results_run hT hr (fn := fn) h hp

/-- The plain function's end. -/
abbrev fnP (P : Program) (f : FuncId) (n : Nat) (w : World) (v : Value) : Ctx := fnC P f n w (fun _ => False) noX (fun v' w' => v' = v ∧ Agree (fun _ => False) w w')

theorem Gives.of_run {P : Program} {f : FuncId} {fn : Func} {c : Code} {args : List Value} {w : World} {v : Value} (hf : P.funcs[f]? = some fn) (hb : fn.body = some c)
    (hn : args.length ≤ fn.ntmps) (h : Run (fnP P f fn.ntmps w v) [.code c] ⟨argsT 0 args, [], 0⟩) : Gives P f args w v :=
  Calls.mono' (calls_of_run hf hb hn h) fun _ _ ⟨_, h1, h2, h3⟩ => ⟨by rw [h1, h2], h3⟩

theorem Run.retP {P : Program} {T : Tab} (hT : tabOK P T) {f : FuncId} {fn : Func} {n : Nat} {w0 : World} {v : Value} {σ : St} {k : List Item} {p : Prop} {x : AV}
    (hf : P.funcs[f]? = some fn) (h : resOf T w0 (fun _ => False) σ fn.results.toList = some (p, [x])) (hp : p) (hv : ∀ M, conc M x = v) : Run (fnP P f n w0 v) (.code .ret :: k) σ :=
  Run.ret hT hf h hp fun M _ _ _ hr => ⟨hv M, hr.agree⟩

/-- Two results or more, all plain. -/
theorem Run.retL {P : Program} {T : Tab} (hT : tabOK P T) {f : FuncId} {fn : Func} {n : Nat} {w0 : World} {v : Value} {σ : St} {k : List Item} {p : Prop} {l : List AV}
    (hf : P.funcs[f]? = some fn) (h : resOf T w0 (fun _ => False) σ fn.results.toList = some (p, l)) (hp : p) (hv : ∀ M, conc M (resAV l) = v) : Run (fnP P f n w0 v) (.code .ret :: k) σ :=
  Run.ret hT hf h hp fun M _ _ _ hr => ⟨hv M, hr.agree⟩

/-! ### Calls -/

theorem Rel.agree' {C : Ctx} (hL : Local C.X) {M : Loc} {fp : Nat → Prop} {σ : St} {a : Act} {w w' : World} (hR : Rel C M fp σ a w) (h : Agree (fun _ => False) w w') : Rel C M fp σ a w' := by
  have hb : ∀ k, k < w.heap.size → w'.heap[k]? = w.heap[k]? := fun k hk => h.block k hk (fun f => f)
  refine { heap := ?_, inj := hR.inj, own := hR.own, apart := hR.apart, agree := hR.agree.trans h (fun _ f _ => f.elim), outer := ?_, fpok := ?_, size := hR.size, frozen := hR.frozen, tmps := hR.tmps, defers := hR.defers }
  · intro id B hB
    have := hR.heap _ _ hB
    have hlt := this.lt
    cases B with
    | cells e segs => exact ⟨by rw [hb _ hlt]; exact this.1, this.2⟩
    | row e sz n vs => obtain ⟨h1, cur, h2, h3⟩ := this; exact ⟨h1, cur, by rw [hb _ hlt]; exact h2, h3⟩
    | map es => obtain ⟨h1, cur, h2, h3⟩ := this; exact ⟨h1, cur, by rw [hb _ hlt]; exact h2, h3⟩
    | rowA e sz n xs => obtain ⟨h1, cur, h2, h3⟩ := this; exact ⟨h1, cur, by rw [hb _ hlt]; exact h2, h3⟩
  · exact hL w w' fp hR.outer (fun b hb' => (hR.fpok b hb').1) (fun b hb' => hb b (hR.fpok b hb').1)
  · intro b hb'; have := hR.fpok b hb'; exact ⟨Nat.lt_of_lt_of_le this.1 h.size, this.2⟩

/-- A call leads into the function's body. -/
def Enters (P : Program) (f : FuncId) : Prop := ∀ args w, (callFunc f args).run P w = .ok (.enter f args) w

theorem enters_mk {P : Program} {f : FuncId} {fn : Func} {c : Code} (hf : P.funcs[f]? = some fn) (hn : (fn.name == "runtime.NumGoroutine") = false) (hb : fn.body = some c) : Enters P f := by
  intro args w
  have h1 : fn.name ≠ "runtime.NumGoroutine" := by simpa using hn
  simp [callFunc, hf, h1, hb]

theorem step_call {P : Program} {b : Frame} {a : Act} {k : List Item} {cs : List Frame} {w w' : World} {ops : Array Oper} {i : Nat} {rest : List Nat} {o : Oper} {f : FuncId} {args : Array Value}
    (ho : ops[i]? = some o) (hw : Region.wanted o (yielded ops a.tmps) = true) (hnd : ∀ c, o.op ≠ .defer c) (hr : (execOp a.eval o).run P w = .ok (.enter f args) w') :
    step P (lone (b.atR a (.inRegion ops (i :: rest) :: k)) cs w) = .next (lone (Frame.enter P f args .normal) (b.atR a (.inRegion ops (i :: rest) :: k) :: cs) w') := by
  have hg := stepGR_op (P := P) (b := b) (k := k) (cs := cs) (w := w) (rest := rest) ho hw
  rw [Oper.semAt_eq _ _ _ hnd] at hg
  exact step_lone_go (by rw [hg]; simp [stepG.apply, hr, Frame.atR])

theorem concL_append {M : Loc} : ∀ (a b : List AV), concL M (a ++ b) = concL M a ++ concL M b
  | [], b => by simp [concL]
  | x :: a, b => by simp [concL, concL_append a b]

/-- A call of a Go function, by what it does. -/
theorem Run.call {C : Ctx} {k : List Item} {σ σ' : St} {ops : Array Oper} {i : Nat} {rest : List Nat} {o : Oper} {c : Call} {g : Operand} {f : FuncId} {caps xs : List AV} {z : AV}
    (ho : ops[i]? = some o) (hop : o.op = .call c) (hc : c.callee = .value g) (hg : σ.ev g = some (.fn f caps)) (hxs : evs σ c.args.toList = some xs) (hw : wantOf ops σ o = some .yes) (hent : Enters C.P f)
    (hd : dstOK C.n o.dst = true)
    (hcon : ∀ M fp a w, Rel C M fp σ a w → GivesR C.P f (concL M (xs ++ caps)) w (fun v w' => ∃ M' fp', Rel C M' fp' σ' a w' ∧ conc M' z = v))
    (h : Run C (.inRegion ops rest :: k) (σ'.put o.dst z)) : Run C (.inRegion ops (i :: rest) :: k) σ := by
  intro M fp a w hR cs
  have hnd : ∀ c, o.op ≠ .defer c := fun c e => by rw [hop] at e; cases e
  have h2 : c.args.map a.eval = (concL M xs).toArray := by apply Array.ext'; simpa using evs_conc hR.q hxs
  have hr : (execOp a.eval o).run C.P w = .ok (.enter f (concL M (xs ++ caps)).toArray) w := by
    simp only [execOp, hop, resolve, hc, h2, hR.q.ev hg, conc, Deferred.ofValue]
    simp [invoke, hent _ _, concL_append]
  have s1 := step_call (b := C.b) (k := k) (cs := cs) (rest := rest) ho (wantOf_yes hR.q hw) hnd hr
  obtain ⟨e, w', fr, ⟨v, rfl, M', fp', hR', hz⟩, hsteps, _, hleave⟩ := hcon M fp a w hR (C.b.atR a (.inRegion ops (i :: rest) :: k) :: cs)
  obtain ⟨m, s, e⟩ := h M' fp' _ w' (hR'.put (z := z) (dstOK_lt hd)) cs
  have hfin : (C.b.atR a (.inRegion ops (i :: rest) :: k)).finish v = C.b.atR (a.put o.dst v) (.inRegion ops rest :: k) := by rw [Frame.finish_atR, ho]; rfl
  refine ⟨m, .head s1 (Steps.trans hsteps (.head (step_leave_returned hleave) ?_)), e⟩
  rw [hfin, ← hz]; exact s

def toVs : List AV → Option (List Value)
  | [] => some []
  | x :: r => match x.toV with | some y => (match toVs r with | some l => some (y :: l) | none => none) | none => none

theorem toVs_conc {M : Loc} : ∀ {l : List AV} {vs : List Value}, toVs l = some vs → concL M l = vs
  | [], vs, h => by cases h; rfl
  | x :: r, vs, h => by
    simp only [toVs] at h
    split at h <;> first | (cases h; done) | skip
    rename_i y hy
    split at h <;> cases h
    rename_i l hl
    simp [concL, AV.toV_conc hy, toVs_conc hl]

/-- A call whose arguments are plain and that turns nothing. -/
theorem Run.callFn {C : Ctx} (hL : Local C.X) {k : List Item} {σ : St} {ops : Array Oper} {i : Nat} {rest : List Nat} {o : Oper} {c : Call} {g : Operand} {f : FuncId} {caps xs : List AV} {vs : List Value} {r : Value}
    (ho : ops[i]? = some o) (hop : o.op = .call c) (hc : c.callee = .value g) (hg : σ.ev g = some (.fn f caps)) (hxs : evs σ c.args.toList = some xs) (hvs : toVs (xs ++ caps) = some vs) (hw : wantOf ops σ o = some .yes) (hent : Enters C.P f)
    (hd : dstOK C.n o.dst = true) (hfn : ∀ w, Agree C.S0 C.w0 w → Gives C.P f vs w r)
    (h : Run C (.inRegion ops rest :: k) (σ.put o.dst (.v r))) : Run C (.inRegion ops (i :: rest) :: k) σ := by
  refine Run.call (σ' := σ) (z := .v r) ho hop hc hg hxs hw hent hd ?_ h
  intro M fp a w hR
  rw [toVs_conc hvs]
  exact Calls.mono' (hfn w hR.agree).r fun e w' ⟨v, h1, h2, h3⟩ => ⟨v, h1, M, fp, hR.agree' hL h3, h2.symm⟩

end Go.AM

/-
  The abstract machine, ninth part: loops, and numbers as words of 64 bits. Own work; over any program.
-/
namespace Go.AM

theorem Run.rounds {C : Ctx} {todo : List Item} {σ : St} {ι : Type} (S : ι → St) (μ : ι → Nat) (i0 : ι) (ht : inT σ.t (S i0).t) (hh : inT σ.h (S i0).h)
    (step : ∀ i, (∀ j, μ j < μ i → ∀ σ', inT σ'.t (S j).t → inT σ'.h (S j).h → Run C todo σ') → Run C todo (S i)) : Run C todo σ := by
  have key : ∀ n i, μ i < n → Run C todo (S i) := by
    intro n
    induction n with
    | zero => intro i h; omega
    | succ n ih => intro i h; exact step i fun j hj σ' h1 h2 => (ih j (by omega)).weaken ⟨inT_lk h1, inT_lk h2⟩
  exact (key _ i0 (Nat.lt_succ_self _)).weaken ⟨inT_lk ht, inT_lk hh⟩

/-- A counter that goes up to N. -/
theorem Run.count {C : Ctx} {todo : List Item} {σ : St} (S : Nat → St) (N : Nat) (k0 : Nat) (hk : k0 ≤ N) (ht : inT σ.t (S k0).t) (hh : inT σ.h (S k0).h)
    (step : ∀ k, k0 ≤ k → k ≤ N → (k < N → ∀ σ', inT σ'.t (S (k + 1)).t → inT σ'.h (S (k + 1)).h → Run C todo σ') → Run C todo (S k)) : Run C todo σ := by
  have key : ∀ d k, k0 ≤ k → k ≤ N → N - k = d → Run C todo (S k) := by
    intro d
    induction d with
    | zero => intro k h0 h1 h2; exact step k h0 h1 (fun h => by omega)
    | succ d ih => intro k h0 h1 h2; exact step k h0 h1 (fun h σ' h3 h4 => (ih (k + 1) (by omega) (by omega) (by omega)).weaken ⟨inT_lk h3, inT_lk h4⟩)
  exact (key _ k0 (Nat.le_refl _) hk rfl).weaken ⟨inT_lk ht, inT_lk hh⟩

theorem i64_eq {a b : Int} (h : a = b) : some (AV.v (Value.int .i64 a)) = some (AV.v (Value.int .i64 b)) := by rw [h]
theorem u64_eq {a b : Int} (h : a = b) : some (AV.v (Value.int .u64 a)) = some (AV.v (Value.int .u64 b)) := by rw [h]
theorem bool_eq {a b : Bool} (h : a = b) : some (AV.v (Value.bool a)) = some (AV.v (Value.bool b)) := by rw [h]

theorem wrap_i64 {x : Int} (h1 : -9223372036854775808 ≤ x) (h2 : x ≤ 9223372036854775807) : IntKind.i64.wrap x = x := by
  simp only [IntKind.wrap, IntKind.bits, IntKind.signed]
  simp
  omega

theorem wrap_u64 {x : Int} (h1 : 0 ≤ x) (h2 : x ≤ 18446744073709551615) : IntKind.u64.wrap x = x := by
  simp only [IntKind.wrap, IntKind.bits, IntKind.signed]
  simp
  omega

theorem wrap_succ {k : Nat} (h : k < 9223372036854775807) : IntKind.i64.wrap ((k : Int) + 1) = ((k + 1 : Nat) : Int) := by rw [wrap_i64] <;> omega

/-! ### Words -/
/-- A word as a number. -/
def un (x : BitVec 64) : Int := (x.toNat : Int)

theorem un_nonneg (x : BitVec 64) : 0 ≤ un x := Int.natCast_nonneg _
theorem un_lt (x : BitVec 64) : un x < 18446744073709551616 := by have := x.isLt; simp only [un]; omega

theorem wrap_u64_nat (n : Nat) : IntKind.u64.wrap (n : Int) = ((n % 2 ^ 64 : Nat) : Int) := by
  simp only [IntKind.wrap, IntKind.bits, IntKind.signed]
  simp

theorem ofInt_un (x : BitVec 64) : BitVec.ofInt 64 (un x) = x := by simp [un]

@[simp] theorem bor_un (x y : BitVec 64) : bor .u64 (un x) (un y) = un (x ||| y) := by
  show IntKind.u64.wrap ((BitVec.ofInt 64 (un x) ||| BitVec.ofInt 64 (un y)).toNat : Int) = _
  rw [ofInt_un, ofInt_un, wrap_u64_nat, Nat.mod_eq_of_lt (x ||| y).isLt]; rfl
@[simp] theorem band_un (x y : BitVec 64) : band .u64 (un x) (un y) = un (x &&& y) := by
  show IntKind.u64.wrap ((BitVec.ofInt 64 (un x) &&& BitVec.ofInt 64 (un y)).toNat : Int) = _
  rw [ofInt_un, ofInt_un, wrap_u64_nat, Nat.mod_eq_of_lt (x &&& y).isLt]; rfl
@[simp] theorem bxor_un (x y : BitVec 64) : bxor .u64 (un x) (un y) = un (x ^^^ y) := by
  show IntKind.u64.wrap ((BitVec.ofInt 64 (un x) ^^^ BitVec.ofInt 64 (un y)).toNat : Int) = _
  rw [ofInt_un, ofInt_un, wrap_u64_nat, Nat.mod_eq_of_lt (x ^^^ y).isLt]; rfl
@[simp] theorem bandn_un (x y : BitVec 64) : bandn .u64 (un x) (un y) = un (x &&& ~~~y) := by
  show IntKind.u64.wrap ((BitVec.ofInt 64 (un x) &&& ~~~(BitVec.ofInt 64 (un y))).toNat : Int) = _
  rw [ofInt_un, ofInt_un, wrap_u64_nat, Nat.mod_eq_of_lt (x &&& ~~~y).isLt]; rfl

theorem wrap_u64_bv (z : Int) : IntKind.u64.wrap z = un (BitVec.ofInt 64 z) := by
  simp only [IntKind.wrap, IntKind.bits, IntKind.signed, un, BitVec.toNat_ofInt]
  simp
  omega

@[simp] theorem add_un (x y : BitVec 64) : IntKind.u64.wrap (un x + un y) = un (x + y) := by
  rw [wrap_u64_bv, BitVec.ofInt_add, ofInt_un, ofInt_un]
@[simp] theorem sub_un (x y : BitVec 64) : IntKind.u64.wrap (un x - un y) = un (x - y) := by
  have h := x.isLt
  have h' := y.isLt
  rw [wrap_u64_bv]
  congr 1
  apply BitVec.eq_of_toNat_eq
  rw [BitVec.toNat_ofInt, BitVec.toNat_sub]
  simp only [un]
  omega
@[simp] theorem mul_un (x y : BitVec 64) : IntKind.u64.wrap (un x * un y) = un (x * y) := by
  rw [wrap_u64_bv, BitVec.ofInt_mul, ofInt_un, ofInt_un]

@[simp] theorem shl_un (x : BitVec 64) (k : Int) : shlI .u64 (un x) k = un (x <<< k.toNat) := by
  simp only [shlI, IntKind.bits]
  rw [show un x * 2 ^ (min k.toNat 64) = ((x.toNat * 2 ^ (min k.toNat 64) : Nat) : Int) by simp [un], wrap_u64_nat]
  simp only [un, BitVec.toNat_shiftLeft, Nat.shiftLeft_eq]
  congr 1
  by_cases hk : k.toNat ≤ 64
  · rw [Nat.min_eq_left hk]
  · rw [Nat.min_eq_right (by omega)]
    have h1 : x.toNat * 2 ^ 64 % 2 ^ 64 = 0 := Nat.mul_mod_left _ _
    have h2 : x.toNat * 2 ^ k.toNat % 2 ^ 64 = 0 := by
      rw [show k.toNat = (k.toNat - 64) + 64 by omega, Nat.pow_add, ← Nat.mul_assoc]
      exact Nat.mul_mod_left _ _
    rw [h1, h2]

@[simp] theorem shr_un (x : BitVec 64) (k : Int) : shrI .u64 (un x) k = un (x >>> k.toNat) := by
  simp only [shrI, IntKind.bits]
  rw [show (2 : Int) ^ (min k.toNat 64) = ((2 ^ (min k.toNat 64) : Nat) : Int) by simp, Int.fdiv_eq_ediv_of_nonneg _ (Int.natCast_nonneg _)]
  simp only [un, BitVec.toNat_ushiftRight, Nat.shiftRight_eq_div_pow]
  rw [← Int.natCast_ediv]
  congr 1
  by_cases hk : k.toNat ≤ 64
  · rw [Nat.min_eq_left hk]
  · rw [Nat.min_eq_right (by omega)]
    have hx := x.isLt
    rw [Nat.div_eq_of_lt hx, Nat.div_eq_of_lt (Nat.lt_of_lt_of_le hx (Nat.pow_le_pow_right (by decide) (by omega)))]

@[simp] theorem un_inj {x y : BitVec 64} : un x = un y ↔ x = y := by
  constructor
  · intro h; apply BitVec.eq_of_toNat_eq; simp only [un] at h; omega
  · rintro rfl; rfl
@[simp] theorem un_beq (x y : BitVec 64) : (un x == un y) = (x == y) := by
  rw [Bool.eq_iff_iff]; simp only [beq_iff_eq, un_inj]
@[simp] theorem un_bne (x y : BitVec 64) : (un x != un y) = (x != y) := by
  simp only [bne, un_beq]
@[simp] theorem un_bne0 (x : BitVec 64) : (un x != 0) = (x != 0#64) := un_bne x 0#64
@[simp] theorem un_beq0 (x : BitVec 64) : (un x == 0) = (x == 0#64) := un_beq x 0#64
@[simp] theorem un_bne1 (x : BitVec 64) : (un x != 1) = (x != 1#64) := un_bne x 1#64
@[simp] theorem un_beq1 (x : BitVec 64) : (un x == 1) = (x == 1#64) := un_beq x 1#64
@[simp] theorem un_eq0 (x : BitVec 64) : (un x = 0) ↔ (x = 0#64) := un_inj (y := 0#64)
@[simp] theorem un_eq1 (x : BitVec 64) : (un x = 1) ↔ (x = 1#64) := un_inj (y := 1#64)
theorem shl1_un (k : Int) : shlI .u64 1 k = un (1#64 <<< k.toNat) := shl_un 1#64 k
theorem sub1_un (x : BitVec 64) : IntKind.u64.wrap (un x - 1) = un (x - 1#64) := sub_un x 1#64
theorem band1_un (x : BitVec 64) : band .u64 (un x) 1 = un (x &&& 1#64) := band_un x 1#64
theorem un_zero : (0 : Int) = un 0#64 := rfl
theorem un_one : (1 : Int) = un 1#64 := rfl

end Go.AM
