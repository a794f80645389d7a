/-
  The abstract machine, between the fifth and the sixth part: append. Own work; over any program.
-/
import Derived.Test.YtehimiadpgbhmaaDoorAM5
import Derived.Maps.AppendAt
namespace Go.AM

def rmv {α : Type} : List (Nat × α) → Nat → List (Nat × α)
  | [], _ => []
  | (j, x) :: r, i => match Nat.beq i j with | true => rmv r i | false => (j, x) :: rmv r i

theorem lk_rmv {α : Type} {i : Nat} : ∀ {l : List (Nat × α)} {j : Nat} {x : α}, lk (rmv l i) j = some x → j ≠ i ∧ lk l j = some x
  | [], j, x, h => by cases h
  | (k, y) :: r, j, x, h => by
    simp only [rmv] at h
    split at h
    · rename_i he
      have e := Nat.eq_of_beq_eq_true he
      subst e
      obtain ⟨h1, h2⟩ := lk_rmv h
      refine ⟨h1, ?_⟩
      simp only [lk]
      split
      · rename_i h3; exact absurd (Nat.eq_of_beq_eq_true h3) h1
      · exact h2
    · rename_i he
      simp only [lk] at h ⊢
      split at h
      · rename_i h3
        cases h
        have e := Nat.eq_of_beq_eq_true h3
        subst e
        exact ⟨fun e => by subst e; simp at he, rfl⟩
      · exact lk_rmv h

def rmo {α : Type} (h : List (Nat × α)) : Option Nat → List (Nat × α)
  | some id => rmv h id
  | none => h

/-- A row grown: in its place, or in a new block. `old` is what was given up. -/
theorem RelH.grow {C : Ctx} (hL : Local C.X) {M : Loc} {fp : Nat → Prop} {h : List (Nat × Blk)} {w w' : World} (hR : RelH C M fp h w) {old : Option Nat} {row : Option Nat} {nx g cap : Nat} {B : Blk} (hb : hBelow nx h = true)
    (hrow : match old with | some id => (∃ B0, lk h id = some B0) ∧ row = some (M id).1 | none => row = none)
    (hg : w.grownBy w' row) (hat : some g = row ∨ g = w.heap.size) (hB : BlkAt (updM M nx (g, cap)) w' nx B) :
    RelH C (updM M nx (g, cap)) fp ((nx, B) :: (rmo h old)) w' := by
  have hM : ∀ i, i < nx → updM M nx (g, cap) i = M i := fun i hi => by simp [updM, Nat.ne_of_lt hi]
  have hMid : updM M nx (g, cap) nx = (g, cap) := by simp [updM]
  have hkeep : ∀ j Bj, lk (rmo h old) j = some Bj → lk h j = some Bj ∧ some (M j).1 ≠ row := by
    intro j Bj hj
    cases old with
    | none => simp only [rmo] at hj hrow; exact ⟨hj, by rw [hrow]; simp⟩
    | some id =>
      simp only [rmo] at hj hrow
      obtain ⟨⟨B0, h0⟩, hr⟩ := hrow
      obtain ⟨h1, h2⟩ := lk_rmv hj
      refine ⟨h2, fun e => h1 (hR.inj _ _ _ _ h2 h0 ?_)⟩
      rw [hr] at e; exact Option.some.inj e
  have cs : ∀ j Bj, lk ((nx, B) :: (rmo h old)) j = some Bj → (j = nx ∧ Bj = B) ∨ (j < nx ∧ lk h j = some Bj ∧ some (M j).1 ≠ row) := by
    intro j Bj hj
    rw [lk] at hj
    split at hj
    · rename_i he; cases hj; exact .inl ⟨Nat.eq_of_beq_eq_true he, rfl⟩
    · have := hkeep _ _ hj; exact .inr ⟨(lkh_below hb this.1).1, this⟩
  have hfprow : ∀ b, fp b → some b ≠ row := by
    intro b hfb e
    cases old with
    | none => simp only at hrow; rw [hrow] at e; cases e
    | some id =>
      simp only at hrow
      obtain ⟨⟨B0, h0⟩, hr⟩ := hrow
      rw [hr] at e
      exact hR.apart _ _ h0 (Option.some.inj e ▸ hfb)
  have hgold : some g = row → ∃ id B0, old = some id ∧ lk h id = some B0 ∧ g = (M id).1 := by
    intro e
    cases old with
    | none => simp only at hrow; rw [hrow] at e; cases e
    | some id =>
      simp only at hrow
      obtain ⟨⟨B0, h0⟩, hr⟩ := hrow
      rw [hr] at e
      exact ⟨id, B0, rfl, h0, Option.some.inj e⟩
  have hne : ∀ j Bj, lk h j = some Bj → some (M j).1 ≠ row → (M j).1 ≠ g := by
    intro j Bj hj hr e
    rcases hat with h1 | h1
    · exact hr (by rw [← h1, e])
    · have := (hR.heap _ _ hj).lt; omega
  refine { heap := ?_, inj := ?_, own := ?_, apart := ?_, agree := ?_, outer := ?_, fpok := ?_ }
  · intro j Bj hj
    rcases cs j Bj hj with ⟨rfl, rfl⟩ | ⟨hlt, hj', hr⟩
    · exact hB
    · have h1 := hR.heap _ _ hj'
      exact h1.congr hM hlt (lkh_below hb hj').2 (hg.block _ h1.lt hr)
  · intro i j Bi Bj hi hj e
    rcases cs i Bi hi with ⟨rfl, rfl⟩ | ⟨hi1, hi', hir⟩ <;> rcases cs j Bj hj with ⟨rfl, rfl⟩ | ⟨hj1, hj', hjr⟩
    · rfl
    · rw [hMid, hM j hj1] at e; exact absurd e.symm (hne _ _ hj' hjr)
    · rw [hMid, hM i hi1] at e; exact absurd e (hne _ _ hi' hir)
    · rw [hM i hi1, hM j hj1] at e; exact hR.inj _ _ _ _ hi' hj' e
  · intro j Bj hj hl
    rcases cs j Bj hj with ⟨rfl, rfl⟩ | ⟨hlt, hj', hr⟩
    · rw [hMid] at hl ⊢
      rcases hat with h1 | h1
      · obtain ⟨id, B0, _, h0, rfl⟩ := hgold h1
        exact hR.own _ _ h0 hl
      · have := hR.agree.size; simp only at hl; omega
    · rw [hM j hlt] at hl ⊢; exact hR.own _ _ hj' hl
  · intro j Bj hj
    rcases cs j Bj hj with ⟨rfl, rfl⟩ | ⟨hlt, hj', hr⟩
    · rw [hMid]
      rcases hat with h1 | h1
      · obtain ⟨id, B0, _, h0, rfl⟩ := hgold h1
        exact hR.apart _ _ h0
      · intro hf; have := (hR.fpok _ hf).1; simp only at this; omega
    · rw [hM j hlt]; exact hR.apart _ _ hj'
  · refine ⟨hg.os.trans hR.agree.os, hg.tape.trans hR.agree.tape, hg.output.trans hR.agree.output, Nat.le_trans hR.agree.size hg.size, ?_⟩
    intro k hk hs
    rw [hg.block k (Nat.lt_of_lt_of_le hk hR.agree.size) ?_]
    · exact hR.agree.block k hk hs
    · intro e
      cases old with
      | none => simp only at hrow; rw [hrow] at e; cases e
      | some id =>
        simp only at hrow
        obtain ⟨⟨B0, h0⟩, hr⟩ := hrow
        rw [hr] at e
        have e := Option.some.inj e
        subst e
        exact hs (hR.own _ _ h0 hk)
  · exact hL w w' fp hR.outer (fun b hb => (hR.fpok b hb).1) (fun b hb => hg.block b (hR.fpok b hb).1 (hfprow b hb))
  · intro b hb; exact ⟨Nat.lt_of_lt_of_le (hR.fpok b hb).1 hg.size, (hR.fpok b hb).2⟩

/-- What is appended: what must hold, how many, the cells. -/
def srcOf (W0 : World) (S0 : Nat → Prop) (h : List (Nat × Blk)) (sz : Nat) (x : AV) : Option (Prop × Nat × List Value) :=
  match x with
  | .sl id sz' off m =>
    match lk h id with
    | some (.row _ sz2 n vs) => some ((sz' = sz ∧ sz2 = sz) ∧ off + m ≤ n, m, (vs.drop (off * sz)).take (m * sz))
    | _ => none
  | .v (.slice (some a) m _) => some ((∀ j, j < m * sz → (W0.cell? (a.add j)).isSome) ∧ ¬ S0 a.block, m, extCells W0 a 0 (m * sz))
  | _ => none

theorem srcOf_run {C : Ctx} {M : Loc} {fp : Nat → Prop} {h : List (Nat × Blk)} {w : World} (hR : RelH C M fp h w) {sz : Nat} {x : AV} {p : Prop} {m : Nat} {news : List Value}
    (hs : srcOf C.w0 C.S0 h sz x = some (p, m, news)) (hp : p) :
    ∃ a c, conc M x = .slice (some a) m c ∧ news.length = m * sz ∧ ∀ j u, news[j]? = some u → w.cell? (a.add j) = some u := by
  unfold srcOf at hs
  split at hs <;> first | (cases hs; done) | skip
  · rename_i id sz' off m'
    split at hs <;> cases hs
    rename_i e sz2 n vs hB
    obtain ⟨⟨h1, h2⟩, h3⟩ := hp
    subst h1; subst h2
    have hb := hR.heap _ _ hB
    have hlen := hb.1
    have hle : off * sz2 + m * sz2 ≤ n * sz2 := by rw [← Nat.add_mul]; exact Nat.mul_le_mul_right _ h3
    refine ⟨⟨(M id).1, off * sz2, none⟩, (M id).2 - off, by simp only [conc], by simp; omega, ?_⟩
    intro j u hj
    rw [List.getElem?_take] at hj
    split at hj
    · rw [List.getElem?_drop] at hj
      have := row_cells hb _ _ hj
      rw [Addr.add_lit]
      rw [Nat.zero_add] at this; exact this
    · cases hj
  · rename_i a m' c
    cases hs
    refine ⟨a, c, by simp [conc], extCells_length _ _ _ _, ?_⟩
    intro j u hj
    have hlt : j < m * sz := by have := (List.getElem?_eq_some_iff.1 hj).1; rwa [extCells_length] at this
    have h0 := hp.1 j hlt
    have := extCells_get _ _ _ 0 j u hj (by simpa using h0)
    rw [Nat.zero_add] at this
    exact hR.agree.cell this (by rw [add_block]; exact hp.2)

/-- append: what must hold, the new slice, the blocks. -/
def appendOf (T : Tab) (W0 : World) (S0 : Nat → Prop) (h : List (Nat × Blk)) (nx : Nat) (t : TypeId) (s x : AV) : Option (Prop × AV × List (Nat × Blk)) :=
  match T.desc t with
  | some (.slice e) =>
    match lk T e with
    | some ⟨_, sz, bytes, z⟩ =>
      match srcOf W0 S0 h sz x with
      | some (p, m, news) =>
        match s with
        | .v (.slice none 0 0) =>
          some ((((p ∧ 0 < m) ∧ (0 < sz ∧ z.cells.size = sz)) ∧ (m ≤ maxLen ∧ m * bytes ≤ 140737488355328)) ∧ ∀ u ∈ news, u.oneCell' = true, .sl nx sz 0 m, (nx, .row e sz m news) :: h)
        | .sl id sz' 0 len =>
          match lk h id with
          | some (.row e' sz2 n vs) =>
            some (((((p ∧ len ≤ n) ∧ (sz' = sz ∧ sz2 = sz ∧ e' = e)) ∧ (0 < sz ∧ z.cells.size = sz)) ∧ (len + m ≤ maxLen ∧ (len + m) * bytes ≤ 140737488355328)) ∧ ∀ u ∈ news, u.oneCell' = true,
              .sl nx sz 0 (len + m), (nx, .row e sz (len + m) (vs.take (len * sz) ++ news)) :: rmv h id)
          | _ => none
        | _ => none
      | none => none
    | none => none
  | _ => none

theorem appendOf_run {C : Ctx} {T : Tab} (hT : tabOK C.P T) (hL : Local C.X) {M : Loc} {fp : Nat → Prop} {h h' : List (Nat × Blk)} {nx : Nat} {w : World} (hR : RelH C M fp h w) (hb : hBelow nx h = true) {t ty : TypeId} {s x z : AV} {p : Prop}
    (ha : appendOf T C.w0 C.S0 h nx t s x = some (p, z, h')) (hp : p) :
    ∃ M' w', (∀ i, i < nx → M' i = M i) ∧ (Builtin.append_ #[t, t] ty #[conc M s, conc M x]).run C.P w = .ok (conc M' z) w' ∧ RelH C M' fp h' w' := by
  unfold appendOf at ha
  split at ha <;> first | (cases ha; done) | skip
  rename_i e hd
  split at ha <;> first | (cases ha; done) | skip
  rename_i d0 s0 b0 z0 hi0
  obtain ⟨ti, hie⟩ : ∃ i : TI, i = ⟨d0, s0, b0, z0⟩ := ⟨_, rfl⟩
  have hi : lk T e = some ti := by rw [hie]; exact hi0
  obtain rfl : s0 = ti.size := by rw [hie]
  obtain rfl : z0 = ti.zero := by rw [hie]
  obtain rfl : b0 = ti.bytes := by rw [hie]
  obtain ⟨_, xi, hxi, hxs, hxb, hxz⟩ := hT e ti hi
  have hund : C.P.underlying t = some (.slice e) := by
    unfold Tab.desc at hd
    split at hd
    · rename_i hh; cases hd; exact (hT t _ hh).1
    · cases hd
  split at ha <;> first | (cases ha; done) | skip
  rename_i ps m news hs
  have fin : ∀ (old : Option Nat) (row : Option Nat) (len : Nat) (xs : List Value) (v : Value), (match old with | some id => (∃ B0, lk h id = some B0) ∧ row = some (M id).1 | none => row = none) → v.ownBlock = row → w.ownsRow 0 e ti.size v len xs → (v ≠ .slice none 0 0 ∨ 0 < m) → v = conc M s →
      ps → 0 < ti.size → ti.zero.cells.size = ti.size → len + m ≤ maxLen → (len + m) * ti.bytes ≤ 140737488355328 → (∀ u ∈ news, u.oneCell' = true) →
      z = .sl nx ti.size 0 (len + m) → h' = (nx, .row e ti.size (len + m) (xs ++ news)) :: (rmo h old) →
      ∃ M' w', (∀ i, i < nx → M' i = M i) ∧ (Builtin.append_ #[t, t] ty #[conc M s, conc M x]).run C.P w = .ok (conc M' z) w' ∧ RelH C M' fp h' w' := by
    intro old row len xs v hrow hvb hown hnn hv hps h1 h2 h3 h4 h5 hz hh'
    obtain ⟨a, c, hx, hl, hnews⟩ := srcOf_run hR hs hps
    obtain ⟨v', w', hr, hown', hgr, hnil, hat⟩ := run_append_own_at (P := C.P) w 0 t ty e xi ti.zero ti.size ti.bytes hund hxi hxz hxs hxb h2 h1 v len xs hown a m c news hl hnews h5 h3 h4 (Nat.zero_le _)
    have hv'n : v' ≠ .slice none 0 0 := by
      intro e1
      have := hnil.1 e1
      rcases hnn with h6 | h6
      · exact h6 this.1
      · omega
    rcases hown'.2 with ⟨h6, _⟩ | ⟨g, cap, cur, h6, _, hgg, hnc, hcm, hcs, htk⟩
    · exact absurd h6 hv'n
    · subst h6
      refine ⟨updM M nx (g, cap), w', fun i hi => by simp [updM, Nat.ne_of_lt hi], ?_, ?_⟩
      · rw [← hv, hx, hr, hz]; simp [conc, updM]
      · rw [hh']
        have hat' : some g = row ∨ g = w.heap.size := by
          rcases hat with h7 | h7
          · left; rw [← hvb, ← h7]; rfl
          · right; simpa [Value.ownBlock] using h7
        refine hR.grow hL hb hrow (by rw [← hvb]; exact hgr) hat' ⟨hown'.1, cur, by simpa [updM] using hgg, by simpa [updM] using hnc, by simpa [updM] using hcm, by simpa [updM] using hcs, htk⟩
  split at ha <;> first | (cases ha; done) | skip
  · cases ha
    obtain ⟨⟨⟨⟨h1, h2⟩, h3, h4⟩, h5, h6⟩, h7⟩ := hp
    exact fin none none 0 [] (.slice none 0 0) rfl rfl (World.ownsRow_nil w 0 e _) (.inr h2) (by simp [conc]) h1 h3 h4 (by omega) (by rw [Nat.zero_add]; exact h6) h7 (by rw [Nat.zero_add]) (by rw [Nat.zero_add]; rfl)
  · rename_i id sz' len
    split at ha <;> cases ha
    rename_i e' sz2 n vs hB
    obtain ⟨⟨⟨⟨⟨h1, h2⟩, h8, h9, h10⟩, h3, h4⟩, h5, h6⟩, h7⟩ := hp
    subst h8; subst h9; subst h10
    obtain ⟨hn, cur, hc, hcap, hmax, hsz, htake⟩ := hR.heap _ _ hB
    have hle : len * ti.size ≤ n * ti.size := Nat.mul_le_mul_right _ h2
    refine fin (some id) (some (M id).1) len (vs.take (len * ti.size)) (.slice (some ⟨(M id).1, 0, none⟩) len (M id).2) ⟨⟨_, hB⟩, rfl⟩ rfl ⟨by simp; omega, .inr ⟨(M id).1, (M id).2, cur, rfl, Nat.zero_le _, hc, by omega, hmax, hsz, ?_⟩⟩ (.inl (by simp)) (by simp [conc]) h1 h3 h4 h5 h6 h7 rfl rfl
    rw [← htake, List.take_take, Nat.min_eq_left hle]

/-- append of nothing. -/
theorem append_nil_run {P : Program} {T : Tab} (hT : tabOK P T) {t ty e : TypeId} (hd : T.desc t = some (.slice e)) {ti : TI} (hi : lk T e = some ti) {q : Option Addr} {n c : Nat} (hnc : n ≤ c) (hz : q = none → n = 0) (w : World) :
    (Builtin.append_ #[t, t] ty #[.slice q n c, .slice none 0 0]).run P w = .ok (.slice q n c) w := by
  have hu := tab_und hT hd
  have hs := tab_size' hT hi
  cases q <;> simp [Builtin.append_, hu, hs, Builtin.lenOf, Builtin.firstCells, hnc, storeCells]

end Go.AM
