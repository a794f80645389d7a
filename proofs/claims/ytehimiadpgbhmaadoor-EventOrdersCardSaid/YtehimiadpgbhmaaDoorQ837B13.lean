/-
  Own work, merged: O1, X4, AM33, AM22, AM23, AM24, AM34, AM37, AM38, AM39.
-/
import Derived.AtR
import Derived.Below
import Derived.ChangeKeysEq
import Derived.KernelRfl
import Derived.Laws.AppendOwn
import Derived.Laws.BytesString
import Derived.Laws.Cells
import Derived.Laws.CopyRow
import Derived.Laws.Entries
import Derived.Laws.Rows
import Derived.Laws.Small
import Derived.Laws.StructEq
import Derived.Lib.TrailingZeros
import Derived.Maps.AppendAt
import Derived.Orders
import Derived.RangeFuncRecord
import Derived.Test.YtehimiadpgbhmaaDoorProg
import Derived.Test.YtehimiadpgbhmaaDoorQB708B4
/-
  Executions whose orders are whole: what Rf, Co and Fr hold of them. Plain. Own work.
-/
namespace Go.Proofs.YtehimiadpgbhmaaDoor
open Go.AM
set_option maxRecDepth 100000

theorem o_shl (i j : Nat) (hi : i < 64) : (1#64 <<< i).getLsbD j = decide (i = j) := by
  rw [BitVec.getLsbD_shiftLeft, BitVec.getLsbD_one]
  by_cases h : i = j
  · subst h; simp [hi]
  · by_cases hlt : j < i
    · simp [hlt, h]
    · have : j - i ≠ 0 := by omega
      simp [h, this]
theorem o_cP (R : Rl) (s : BitVec 64) (v k a b : Nat) (hv : v < 64) (ha : a < 64) : (cP R s v k).has a b = true ↔ R.has a b = true ∨ (a < k ∧ s.getLsbD a = true ∧ b = v) := by
  unfold cP Rl.has
  rw [Rl.row_by, if_pos ha]
  by_cases h : a < k ∧ s.getLsbD a = true
  · rw [if_pos h, BitVec.getLsbD_or, o_shl _ _ hv, Bool.or_eq_true, decide_eq_true_eq]
    constructor
    · rintro (h1 | h1)
      · exact .inl h1
      · exact .inr ⟨h.1, h.2, h1.symm⟩
    · rintro (h1 | h1)
      · exact .inl h1
      · exact .inr h1.2.2.symm
  · rw [if_neg h]
    constructor
    · exact .inl
    · rintro (h1 | h1)
      · exact h1
      · exact absurd ⟨h1.1, h1.2.1⟩ h
/-- One stands ahead of another in a list. -/
def bef (a b : Int) : List Int → Prop
  | [] => False
  | v :: l => (v = a ∧ b ∈ l) ∨ bef a b l
theorem bef_mem {a b : Int} : ∀ {l : List Int}, bef a b l → a ∈ l ∧ b ∈ l
  | v :: l, h => by
    rcases h with ⟨rfl, h⟩ | h
    · exact ⟨by simp, by simp [h]⟩
    · exact ⟨by simp [(bef_mem h).1], by simp [(bef_mem h).2]⟩
theorem bef_total {a b : Int} : ∀ {l : List Int}, a ∈ l → b ∈ l → a ≠ b → bef a b l ∨ bef b a l
  | v :: l, ha, hb, hne => by
    rcases List.mem_cons.1 ha with e | ha'
    · rcases List.mem_cons.1 hb with e' | hb'
      · exact absurd (e.trans e'.symm) hne
      · exact .inl (.inl ⟨e.symm, hb'⟩)
    · rcases List.mem_cons.1 hb with e' | hb'
      · exact .inr (.inl ⟨e'.symm, ha'⟩)
      · rcases bef_total ha' hb' hne with h | h
        · exact .inl (.inr h)
        · exact .inr (.inr h)
theorem bef_anti {a b : Int} : ∀ {l : List Int}, l.Nodup → bef a b l → ¬ bef b a l
  | v :: l, hn, h, g => by
    rw [List.nodup_cons] at hn
    rcases h with ⟨rfl, h⟩ | h
    · rcases g with ⟨e, g⟩ | g
      · subst e; exact hn.1 h
      · exact hn.1 (bef_mem g).2
    · rcases g with ⟨rfl, g⟩ | g
      · exact hn.1 (bef_mem h).2
      · exact bef_anti hn.2 h g
theorem bef_irr {a : Int} {l : List Int} (hn : l.Nodup) : ¬ bef a a l := fun h => bef_anti hn h h

theorem o_chain {n : Nat} (hn : n ≤ 64) : ∀ (l : List Int), (∀ v ∈ l, 0 ≤ v ∧ v < (n : Int)) → ∀ (R : Rl) (s : BitVec 64), (∀ a, s.getLsbD a = true → a < n) → ∀ a b : Nat, a < 64 →
    ((l.foldl (cStep n) (R, s)).1.has a b = true ↔ R.has a b = true ∨ (s.getLsbD a = true ∧ (b : Int) ∈ l) ∨ bef a b l)
  | [], _, R, s, _, a, b, _ => by simp [bef]
  | v :: l, hl, R, s, hs, a, b, ha => by
    obtain ⟨hv0, hv1⟩ := hl v (by simp)
    obtain ⟨q, rfl⟩ : ∃ q : Nat, v = (q : Int) := ⟨v.toNat, by omega⟩
    have hst : cStep n (R, s) (q : Int) = (cP R s q n, s ||| 1#64 <<< q) := by
      unfold cStep; rw [if_neg (by omega)]; simp
    have hbit : ∀ j, (s ||| 1#64 <<< q).getLsbD j = true ↔ s.getLsbD j = true ∨ q = j := fun j => by
      rw [BitVec.getLsbD_or, o_shl _ _ (by omega), Bool.or_eq_true, decide_eq_true_eq]
    rw [List.foldl_cons, hst, o_chain hn l (fun w hw => hl w (by simp [hw])) _ _ (fun j hj => (hbit j).1 hj |>.elim (hs j) (fun h => by omega)) a b ha, o_cP _ _ _ _ _ _ (by omega) ha, hbit]
    simp only [bef, List.mem_cons]
    constructor
    · rintro ((h | ⟨_, h1, h2⟩) | ⟨h1 | h1, h2⟩ | h)
      · exact .inl h
      · exact .inr (.inl ⟨h1, .inl (by omega)⟩)
      · exact .inr (.inl ⟨h1, .inr h2⟩)
      · exact .inr (.inr (.inl ⟨by omega, h2⟩))
      · exact .inr (.inr (.inr h))
    · rintro (h | ⟨h1, h2 | h2⟩ | ⟨h1, h2⟩ | h)
      · exact .inl (.inl h)
      · exact .inl (.inr ⟨hs a h1, h1, by omega⟩)
      · exact .inr (.inl ⟨.inl h1, h2⟩)
      · exact .inr (.inl ⟨.inr (by omega), h2⟩)
      · exact .inr (.inr h)
theorem o_all {n : Nat} (hn : n ≤ 64) : ∀ (ord : List (List Int)), (∀ l ∈ ord, ∀ v ∈ l, 0 ≤ v ∧ v < (n : Int)) → ∀ (R : Rl) (a b : Nat), a < 64 →
    ((ord.foldl (cChain n) R).has a b = true ↔ R.has a b = true ∨ ∃ l ∈ ord, bef a b l)
  | [], _, R, a, b, _ => by simp
  | l :: ord, hl, R, a, b, ha => by
    rw [List.foldl_cons, o_all hn ord (fun m hm => hl m (by simp [hm])) _ a b ha, cChain, o_chain hn l (hl l (by simp)) R 0#64 (fun j hj => by simp at hj) a b ha]
    simp only [BitVec.getLsbD_zero, Bool.false_eq_true, false_and, false_or, List.mem_cons, exists_eq_or_imp]
    rw [or_assoc]
theorem o_void (n : Int) (a b : Nat) : (Rl.void n).has a b = false := by rw [Rl.has, Rl.row_void]; simp
theorem co_has {n : Nat} (hn : n ≤ 64) {ord : List (List Int)} (hl : ∀ l ∈ ord, ∀ v ∈ l, 0 ≤ v ∧ v < (n : Int)) (a b : Nat) (ha : a < 64) : (coL n ord).has a b = true ↔ ∃ l ∈ ord, bef a b l := by
  unfold coL; rw [o_all hn ord hl _ a b ha, o_void]; simp
theorem o_rf {n : Nat} (hn : n ≤ 64) {fr : List Int} (hl : fr.length = n) (a b : Nat) : (rfL n fr).has a b = true ↔ a < n ∧ fr[b]? = some (a : Int) := by
  unfold rfL rfP
  rw [Rl.has_gen]
  simp only [Bool.and_eq_true, decide_eq_true_eq]
  constructor
  · rintro ⟨_, h1, h2, h3⟩
    exact ⟨by omega, h3⟩
  · rintro ⟨h1, h3⟩
    have := (List.getElem?_eq_some_iff.1 h3).1
    exact ⟨⟨by omega, by omega⟩, by omega, by omega, h3⟩
theorem o_fr {n : Nat} {F O : Rl} (hF : Below' n F) (a b : Nat) (ha : a < 64) (hb : b < 64) : (frL n F O).has a b = true ↔ ∃ z, z < n ∧ F.has z a = true ∧ O.has z b = true ∧ a ≠ b := by
  unfold frL
  rw [frP_has ha hb]
  constructor
  · rintro ⟨z, h1, h2⟩
    exact ⟨z, by omega, h2⟩
  · rintro ⟨z, h1, h2⟩
    exact ⟨z, .inl h1, h2⟩

/-! ### Lists without repeats -/
theorem o_erase {α : Type} [DecidableEq α] {l : List α} {m : List α} (hn : l.Nodup) (h : ∀ x ∈ l, x ∈ m) : l.length ≤ m.length := by
  induction l generalizing m with
  | nil => simp
  | cons a l ih =>
    rw [List.nodup_cons] at hn
    have ham : a ∈ m := h a (by simp)
    have := ih (m := m.erase a) hn.2 fun x hx => (List.mem_erase_of_ne (by rintro rfl; exact hn.1 hx)).2 (h x (by simp [hx]))
    rw [List.length_erase_of_mem ham] at this
    have : 0 < m.length := List.length_pos_of_mem ham
    simp only [List.length_cons]
    omega
theorem o_cover {α : Type} [DecidableEq α] {l m : List α} (hn : l.Nodup) (h : ∀ x ∈ l, x ∈ m) (hlen : m.length ≤ l.length) {x : α} (hx : x ∈ m) : x ∈ l := by
  by_cases hxl : x ∈ l
  · exact hxl
  · have := o_erase (l := x :: l) (m := m) (List.nodup_cons.2 ⟨hxl, hn⟩) fun y hy => by
      rcases List.mem_cons.1 hy with rfl | hy
      · exact hx
      · exact h y hy
    simp only [List.length_cons] at this
    omega

/-! ### Whole executions -/
/-- What the checker of executions looks at, at one event. -/
def RdO (x : Xn) (i : Nat) : Prop := ∃ (h : i < x.ev.length) (f : Int), x.from_[i]? = some f ∧ (rdB x.ev[i] = true ↔ 0 ≤ f) ∧ f < (x.ev.length : Int)
def wrN (x : Xn) (k : Nat) : Bool := match x.ev[k]? with | some e => wrB e | none => false
def WrO (x : Xn) (i : Nat) (v : Int) : Prop := ∃ k, ∃ hk : k < x.ev.length, v = (k : Int) ∧ wrB x.ev[k] = true ∧ x.ev[k].loc = (i : Int)
structure WholeO (x : Xn) : Prop where
  le : x.ev.length ≤ 64
  len : x.from_.length = x.ev.length
  rd : ∀ i, i < x.ev.length → RdO x i
  ord : ∀ i (h : i < x.ord.length), ∀ v ∈ x.ord[i], WrO x i v
  once : x.ord.flatten.Nodup
  many : x.ord.flatten.length = ((List.range x.ev.length).filter (wrN x)).length
theorem WholeO.bd {x : Xn} (h : WholeO x) : ∀ l ∈ x.ord, ∀ v ∈ l, 0 ≤ v ∧ v < (x.ev.length : Int) := fun l hl v hv => by
  obtain ⟨i, hi, rfl⟩ := List.mem_iff_getElem.1 hl
  obtain ⟨k, hk, rfl, _⟩ := h.ord i hi v hv
  omega
/-- Each write stands in the order of its location. -/
theorem WholeO.all {x : Xn} (h : WholeO x) {k : Nat} (hk : k < x.ev.length) (hw : wrB x.ev[k] = true) : ∃ i, ∃ hi : i < x.ord.length, x.ev[k].loc = (i : Int) ∧ (k : Int) ∈ x.ord[i] := by
  have hin : (k : Int) ∈ x.ord.flatten := by
    refine o_cover (m := ((List.range x.ev.length).filter (wrN x)).map fun j : Nat => (j : Int)) h.once (fun v hv => ?_) (by rw [List.length_map, h.many]; exact Nat.le_refl _) ?_
    · obtain ⟨l, hl, hv⟩ := List.mem_flatten.1 hv
      obtain ⟨i, hi, rfl⟩ := List.mem_iff_getElem.1 hl
      obtain ⟨j, hj, rfl, hw', _⟩ := h.ord i hi v hv
      refine List.mem_map.2 ⟨j, List.mem_filter.2 ⟨List.mem_range.2 hj, ?_⟩, rfl⟩
      rw [wrN, List.getElem?_eq_getElem hj]; exact hw'
    · refine List.mem_map.2 ⟨k, List.mem_filter.2 ⟨List.mem_range.2 hk, ?_⟩, rfl⟩
      rw [wrN, List.getElem?_eq_getElem hk]; exact hw
  obtain ⟨l, hl, hv⟩ := List.mem_flatten.1 hin
  obtain ⟨i, hi, rfl⟩ := List.mem_iff_getElem.1 hl
  obtain ⟨j, hj, e, _, hloc⟩ := h.ord i hi _ hv
  obtain rfl : k = j := by omega
  exact ⟨i, hi, hloc, hv⟩
def pairB (x : Xn) (a b : Nat) : Prop := ∃ (ha : a < x.ev.length) (hb : b < x.ev.length), wrB x.ev[a] = true ∧ wrB x.ev[b] = true ∧ x.ev[a].loc = x.ev[b].loc ∧ a ≠ b
theorem WholeO.co_pair {x : Xn} (h : WholeO x) {a b : Nat} (ha : a < x.ev.length) (hc : (coL x.ev.length x.ord).has a b = true) : pairB x a b := by
  have hle := h.le
  obtain ⟨l, hl, hb⟩ := (co_has h.le h.bd a b (by omega)).1 hc
  obtain ⟨m1, m2⟩ := bef_mem hb
  have hnd : l.Nodup := (List.pairwise_flatten.1 h.once).1 l hl
  obtain ⟨i, hi, rfl⟩ := List.mem_iff_getElem.1 hl
  obtain ⟨j, hj, e, w1, l1⟩ := h.ord i hi _ m1
  obtain ⟨j', hj', e', w2, l2⟩ := h.ord i hi _ m2
  obtain rfl : a = j := by omega
  obtain rfl : b = j' := by omega
  exact ⟨hj, hj', w1, w2, l1.trans l2.symm, fun e => by subst e; exact bef_irr hnd hb⟩
theorem WholeO.co_one {x : Xn} (h : WholeO x) {a b : Nat} (hp : pairB x a b) : (coL x.ev.length x.ord).has a b = !(coL x.ev.length x.ord).has b a := by
  have hle := h.le
  obtain ⟨ha, hb, w1, w2, hl, hne⟩ := hp
  obtain ⟨i, hi, l1, m1⟩ := h.all ha w1
  obtain ⟨j, hj, l2, m2⟩ := h.all hb w2
  obtain rfl : i = j := by omega
  have hnd := List.pairwise_flatten.1 h.once
  have hone : ∀ {u v : Nat}, (u : Int) ∈ x.ord[i] → (∃ l ∈ x.ord, bef u v l) → bef u v x.ord[i] := by
    rintro u v hu ⟨l, hl', hb'⟩
    obtain ⟨k, hk, rfl⟩ := List.mem_iff_getElem.1 hl'
    obtain ⟨q, _, e, _, q1⟩ := h.ord i hi _ hu
    obtain ⟨q', _, e', _, q2⟩ := h.ord k hk _ (bef_mem hb').1
    obtain rfl : q = q' := by omega
    obtain rfl : i = k := by omega
    exact hb'
  have hn := hnd.1 _ (List.getElem_mem hi)
  rw [Bool.eq_iff_iff, Bool.not_eq_true', ← Bool.not_eq_true, co_has h.le h.bd a b (by omega), co_has h.le h.bd b a (by omega)]
  constructor
  · intro g g'
    exact bef_anti hn (hone m1 g) (hone m2 g')
  · intro g
    rcases bef_total m1 m2 (by omega) with g1 | g1
    · exact ⟨_, List.getElem_mem hi, g1⟩
    · exact absurd ⟨_, List.getElem_mem hi, g1⟩ g
theorem wr_not_rd {e : Ev} (h : wrB e = true) : rdB e = false := by
  cases hr : rdB e with
  | false => rfl
  | true => simp [wrB, rdB] at h hr; omega
theorem WholeO.fr_is {x : Xn} (h : WholeO x) {a b : Nat} (ha : a < x.ev.length) (hb : b < x.ev.length) {f : Int} (hf : x.from_[a]? = some f) :
    (frL x.ev.length (rfL x.ev.length x.from_) (coL x.ev.length x.ord)).has a b = (rdB x.ev[a] && (coL x.ev.length x.ord).has (max 0 f).toNat b) := by
  have hle := h.le
  obtain ⟨_, f', e1, e2, e3⟩ := h.rd a ha
  rw [hf] at e1; cases e1
  rw [Bool.eq_iff_iff, o_fr (rfL_below _) a b (by omega) (by omega), Bool.and_eq_true, e2]
  constructor
  · rintro ⟨z, hz, h1, h2, _⟩
    obtain ⟨_, h1⟩ := (o_rf h.le h.len z a).1 h1
    rw [hf] at h1; cases h1
    refine ⟨by omega, ?_⟩
    rw [show (max (0 : Int) (z : Int)).toNat = z by omega]; exact h2
  · rintro ⟨h0, h2⟩
    refine ⟨(max 0 f).toNat, by omega, ?_, h2, ?_⟩
    · rw [o_rf h.le h.len]
      exact ⟨by omega, by rw [hf]; congr 1; omega⟩
    · rintro rfl
      obtain ⟨_, _, _, w, _⟩ := h.co_pair (by omega) h2
      have := wr_not_rd w
      rw [e2.2 h0] at this; cases this
/-- How many writes a read reads from, of the first so many. -/
def rfN (x : Xn) (a k : Nat) : Nat := ((List.range k).filter fun b => (rfL x.ev.length x.from_).has b a).length
theorem rfN_succ (x : Xn) (a k : Nat) : rfN x a (k + 1) = rfN x a k + (if (rfL x.ev.length x.from_).has k a = true then 1 else 0) := by
  unfold rfN
  rw [List.range_succ, List.filter_append, List.length_append]
  by_cases h : (rfL x.ev.length x.from_).has k a = true
  · simp [h]
  · simp [h]
theorem WholeO.count {x : Xn} (h : WholeO x) {a : Nat} (ha : a < x.ev.length) : rdB x.ev[a] = decide (rfN x a x.ev.length = 1) := by
  obtain ⟨_, f, e1, e2, e3⟩ := h.rd a ha
  have key : ∀ k, k ≤ x.ev.length → rfN x a k = if 0 ≤ f ∧ f < (k : Int) then 1 else 0 := by
    intro k
    induction k with
    | zero => intro _; rw [if_neg (by omega)]; rfl
    | succ k ih =>
      intro hk
      rw [rfN_succ, ih (by omega)]
      have hh : (rfL x.ev.length x.from_).has k a = true ↔ f = (k : Int) := by
        rw [o_rf h.le h.len, e1]
        exact ⟨fun g => Option.some.inj g.2, fun g => ⟨by omega, by rw [g]⟩⟩
      by_cases hfk : f = (k : Int)
      · rw [if_pos (hh.2 hfk), if_neg (by omega), if_pos (by omega)]
      · rw [if_neg (fun g => hfk (hh.1 g))]
        by_cases h1 : 0 ≤ f ∧ f < (k : Int)
        · rw [if_pos h1, if_pos (by omega)]
        · rw [if_neg h1, if_neg (by omega)]
  rw [key _ (Nat.le_refl _), Bool.eq_iff_iff, decide_eq_true_eq, e2]
  by_cases h0 : 0 ≤ f
  · rw [if_pos ⟨h0, e3⟩]; exact ⟨fun _ => rfl, fun _ => h0⟩
  · rw [if_neg (by omega)]; exact ⟨fun g => absurd g h0, fun g => by cases g⟩
end Go.Proofs.YtehimiadpgbhmaaDoor

/-
  Fr, here and in the reference; EventReads. Own work; the orders of the reference's drawn region printed by a program of our own.
-/
namespace Go.Proofs.YtehimiadpgbhmaaDoor
open Go.AM
set_option maxRecDepth 100000

theorem fr_ok (x : Xn) (w : World) (hX : SeesX w x) (hT : TabAt w) (h0 : 0 < w.heap.size) :
    Gives Tryd.prog 10 [encX x] w (encRel (frL (shortL x.ev).length (rfL (shortL x.ev).length x.from_) (coL (shortL x.ev).length x.ord))) := by
  refine Gives.of_run Tryd.func10 rfl (by show 1 ≤ 15; decide) ?_
  have hone := xV_one hX.one1 hX.one4
  have hle := shortL_le x.ev
  have hrf := fun w' (hA : Agree (fun _ => False) w w') => rf_ok x w' (hX.agree hA)
  have hco := fun w' (hA : Agree (fun _ => False) w w') => co_ok x w' (hX.agree hA)
  have heq := fr_eq hle (F := rfL (shortL x.ev).length x.from_) (O := coL (shortL x.ev).length x.ord) (by unfold rfL; exact rfP_n _ _ _) (rfL_below _) (coL_n _ _ _) (coL_below hle _ _ (void_below _ _))
  rw [← heq]
  clear heq
  generalize rfL (shortL x.ev).length x.from_ = F at *
  generalize coL (shortL x.ev).length x.ord = O at *
  have k1 : ∀ w', Agree (fun _ => False) w w' → Gives Tryd.prog 27 [encRel F] w' (encRel (invF (rightL F).n (edgesL (rightL F)))) := fun w' hA => inverse_ok F w' (hT.agree hA (fun f => f)) (Nat.lt_of_lt_of_le h0 hA.size)
  generalize invF (rightL F).n (edgesL (rightL F)) = I at *
  have k2 : ∀ w', Agree (fun _ => False) w w' → Gives Tryd.prog 26 [encRel I, encRel O] w' (encRel (composeL I O)) := fun w' hA => compose_ok I O w' (hT.agree hA (fun f => f)) (Nat.lt_of_lt_of_le h0 hA.size)
  generalize composeL I O = C at *
  have k3 : ∀ w', Gives Tryd.prog 28 [.int .i64 F.n, .int .u64 18446744073709551615] w' (encRel (onL F.n 18446744073709551615#64)) := fun w' => by
    have h := on_ok F.n 18446744073709551615#64 w'
    rw [show un 18446744073709551615#64 = 18446744073709551615 from by decide] at h
    exact h
  generalize onL F.n 18446744073709551615#64 = N at *
  have k4 : ∀ w', Gives Tryd.prog 25 [encRel C, encRel N] w' (encRel (opL (fun a b => a &&& ~~~b) C N)) := fun w' => minus_ok C N w'
  generalize opL (fun a b => a &&& ~~~b) C N = Y at *
  refine RunF_sound tab_ok noX_local 200 [] _ _ rfl ?_ ?_
  · simp
  refine Run.callFn (r := encRel F) noX_local rfl rfl rfl rfl rfl rfl rfl rf_enters rfl (fun w' hA => hrf w' hA) ?_
  refine RunF_sound tab_ok noX_local 200 [] _ _ rfl ?_ ?_
  · simp [segsVals, relV_one']
  refine Run.drawA noX_local rfl [] [(0, .cells 28 [.vals 5 (xV x)]), (2, .cells 32 [.vals 65 (relV F)])] rfl rfl ⟨rfl, by simp [splice, lk], trivial⟩ ?_
  refine RunOF_sound tab_ok noX_local rfl rfl 200 [] _ _ rfl ?_ ?_
  · simp
  refine RunO.callFn (r := encRel I) noX_local rfl rfl rfl rfl rfl rfl rfl rfl inverse_enters rfl (fun w' hA => k1 w' hA) ?_
  refine RunOF_sound tab_ok noX_local rfl rfl 200 [] _ _ rfl ?_ ?_
  · simp
  refine RunO.callFn (r := encRel O) noX_local rfl rfl rfl rfl rfl rfl rfl rfl co_enters rfl (fun w' hA => hco w' hA) ?_
  refine RunOF_sound tab_ok noX_local rfl rfl 200 [] _ _ rfl ?_ ?_
  · simp
  refine RunO.callFn (r := encRel C) noX_local rfl rfl rfl rfl rfl rfl rfl rfl compose_enters rfl (fun w' hA => k2 w' hA) ?_
  refine RunOF_sound tab_ok noX_local rfl rfl 200 [] _ _ rfl ?_ ?_
  · simp
  refine RunO.callFn (r := encRel N) noX_local rfl rfl rfl rfl rfl rfl rfl rfl on_enters rfl (fun w' _ => k3 w') ?_
  refine RunOF_sound tab_ok noX_local rfl rfl 200 [] _ _ rfl ?_ ?_
  · simp
  refine RunO.callFn (r := encRel Y) noX_local rfl rfl rfl rfl rfl rfl rfl rfl minus_enters rfl (fun w' _ => k4 w') ?_
  refine RunOF_sound tab_ok noX_local rfl rfl 200 [] _ _ rfl ?_ ?_
  · simp [segsVals, relV_one', inT, lk]
  refine RunO.done ?_
  refine RunF_sound tab_ok noX_local 100 [] _ _ rfl ?_ ?_
  · simp
  refine Run.retP tab_ok Tryd.func10 rfl ?_ (fun M => ?_)
  · simp
  rfl
theorem fr_enters : Enters Tryd.prog 10 := enters_mk Tryd.func10 (by decide) rfl

theorem frR_ok (x : Xn) (w : World) (hX : SeesX w x) :
    Gives Tryd.prog 11 [encX x] w (encRel (frL (shortL x.ev).length (rfL (shortL x.ev).length x.from_) (coL (shortL x.ev).length x.ord))) := by
  refine Gives.of_run Tryd.func11 rfl (by show 1 ≤ 53; decide) ?_
  have hone := xV_one hX.one1 hX.one4
  have hle := shortL_le x.ev
  have hrf := fun w' (hA : Agree (fun _ => False) w w') => rfR_ok x w' (hX.agree hA)
  have hco := fun w' (hA : Agree (fun _ => False) w w') => coR_ok x w' (hX.agree hA)
  have hFn : (rfL (shortL x.ev).length x.from_).n = ((shortL x.ev).length : Int) := by unfold rfL; exact rfP_n _ _ _
  have hFb := rfL_below (n := (shortL x.ev).length) x.from_
  have hOn : (coL (shortL x.ev).length x.ord).n = ((shortL x.ev).length : Int) := coL_n _ _ _
  generalize rfL (shortL x.ev).length x.from_ = F at *
  generalize coL (shortL x.ev).length x.ord = O at *
  generalize (shortL x.ev).length = n at *
  obtain ⟨Z, hZ⟩ : ∃ Z, Z = frL n F O := ⟨_, rfl⟩
  rw [← hZ]
  refine RunF_sound tab_ok noX_local 200 [] _ _ rfl ?_ ?_
  · simp
  refine' Run.join (todo' := _) [(2, .ptr 1 0), (3, .ptr 2 0), (4, .ptr 3 0)] [(1, .cells 32 [.vals 65 (relV (Rl.void 0))]), (2, .cells 32 [.vals 65 (relV F)]), (3, .cells 32 [.vals 65 (relV O)])] 4 ?_ ?_
  rotate_left
  · intro J
    have J2 : ∀ σ, inT σ.t [(2, .ptr 1 0), (3, .ptr 3 0), (4, .ptr 2 0)] → inT σ.h [(1, .cells 32 [.vals 65 (relV (Rl.void 0))]), (3, .cells 32 [.vals 65 (relV F)]), (2, .cells 32 [.vals 65 (relV O)])] → Run _ _ σ := fun σ ht hh =>
      Run.toR [(2, 3), (3, 2)] (t' := [(2, .ptr 1 0), (3, .ptr 2 0), (4, .ptr 3 0)]) (h' := [(1, .cells 32 [.vals 65 (relV (Rl.void 0))]), (2, .cells 32 [.vals 65 (relV F)]), (3, .cells 32 [.vals 65 (relV O)])]) (n' := 4)
        (J _ ⟨⟨_, rfl, fun M => rfl⟩, ⟨_, rfl, fun M => rfl⟩, ⟨_, rfl, fun M => rfl⟩, trivial⟩ ⟨rfl, rfl, rfl, trivial⟩) ⟨ht.1, ht.2.1, ht.2.2.1, trivial⟩ ⟨hh.1, hh.2.1, hh.2.2.1, trivial⟩ rfl
    refine Run.drawOrd noX_local rfl [(0, .cells 28 [.vals 5 (xV x)])] ⟨rfl, trivial⟩ fun l hl => ?_
    have h := hl
    rcases ord_fork' 4 5 rfl h with h | h
    · rcases ord_fork' 1 4 rfl h with h | h
      · rcases ord_fork' 3 4 rfl h with h | h
        · refine draw_leaf [] (LikeS.add 3 4 (LikeS.add 1 4 (LikeS.add 4 5 (LikeS.refl _)))) h rfl rfl ?_
          refine RunOF_sound tab_ok noX_local rfl rfl 200 [] _ _ rfl ?_ ?_
          · simp
          refine RunO.callFn (r := encRel F) noX_local rfl rfl rfl rfl rfl rfl rfl rfl rfR_enters rfl (fun w' hA => hrf w' hA) ?_
          refine RunOF_sound tab_ok noX_local rfl rfl 200 [] _ _ rfl ?_ ?_
          · simp
          refine RunO.callFn (r := encRel O) noX_local rfl rfl rfl rfl rfl rfl rfl rfl coR_enters rfl (fun w' hA => hco w' hA) ?_
          refine RunOF_sound tab_ok noX_local rfl rfl 200 [] _ _ rfl ?_ ?_
          · simp [inT, lk, segsVals, relV_one']
          refine RunO.done ?_
          refine J _ ?_ ?_
          · exact ⟨⟨_, rfl, fun M => rfl⟩, ⟨_, rfl, fun M => rfl⟩, ⟨_, rfl, fun M => rfl⟩, trivial⟩
          · refine ⟨?_, ?_, ?_, trivial⟩ <;> simp [lk]
        · rcases ord_fork' 3 5 rfl h with h | h
          · refine draw_leaf [] (LikeS.add 3 5 (LikeS.add 4 3 (LikeS.add 1 4 (LikeS.add 4 5 (LikeS.refl _))))) h rfl rfl ?_
            refine RunOF_sound tab_ok noX_local rfl rfl 200 [] _ _ rfl ?_ ?_
            · simp
            refine RunO.callFn (r := encRel F) noX_local rfl rfl rfl rfl rfl rfl rfl rfl rfR_enters rfl (fun w' hA => hrf w' hA) ?_
            refine RunOF_sound tab_ok noX_local rfl rfl 200 [] _ _ rfl ?_ ?_
            · simp [inT, lk]
            refine RunO.callFn (r := encRel O) noX_local rfl rfl rfl rfl rfl rfl rfl rfl coR_enters rfl (fun w' hA => hco w' hA) ?_
            refine RunOF_sound tab_ok noX_local rfl rfl 200 [] _ _ rfl ?_ ?_
            · simp [inT, lk, segsVals, relV_one']
            refine RunO.done ?_
            refine J _ ?_ ?_
            · exact ⟨⟨_, rfl, fun M => rfl⟩, ⟨_, rfl, fun M => rfl⟩, ⟨_, rfl, fun M => rfl⟩, trivial⟩
            · refine ⟨?_, ?_, ?_, trivial⟩ <;> simp [lk]
          · refine draw_leaf [] (LikeS.add 5 3 (LikeS.add 4 3 (LikeS.add 1 4 (LikeS.add 4 5 (LikeS.refl _))))) h rfl rfl ?_
            refine RunOF_sound tab_ok noX_local rfl rfl 200 [] _ _ rfl ?_ ?_
            · simp
            refine RunO.callFn (r := encRel F) noX_local rfl rfl rfl rfl rfl rfl rfl rfl rfR_enters rfl (fun w' hA => hrf w' hA) ?_
            refine RunOF_sound tab_ok noX_local rfl rfl 200 [] _ _ rfl ?_ ?_
            · simp [inT, lk]
            refine RunO.callFn (r := encRel O) noX_local rfl rfl rfl rfl rfl rfl rfl rfl coR_enters rfl (fun w' hA => hco w' hA) ?_
            refine RunOF_sound tab_ok noX_local rfl rfl 200 [] _ _ rfl ?_ ?_
            · simp [inT, lk, segsVals, relV_one']
            refine RunO.done ?_
            refine J _ ?_ ?_
            · exact ⟨⟨_, rfl, fun M => rfl⟩, ⟨_, rfl, fun M => rfl⟩, ⟨_, rfl, fun M => rfl⟩, trivial⟩
            · refine ⟨?_, ?_, ?_, trivial⟩ <;> simp [lk]
      · rcases ord_fork' 1 5 rfl h with h | h
        · rcases ord_fork' 3 5 rfl h with h | h
          · refine draw_leaf [] (LikeS.add 3 5 (LikeS.add 1 5 (LikeS.add 4 1 (LikeS.add 4 5 (LikeS.refl _))))) h rfl rfl ?_
            refine RunOF_sound tab_ok noX_local rfl rfl 200 [] _ _ rfl ?_ ?_
            · simp [inT, lk]
            refine RunO.callFn (r := encRel F) noX_local rfl rfl rfl rfl rfl rfl rfl rfl rfR_enters rfl (fun w' hA => hrf w' hA) ?_
            refine RunOF_sound tab_ok noX_local rfl rfl 200 [] _ _ rfl ?_ ?_
            · simp
            refine RunO.callFn (r := encRel O) noX_local rfl rfl rfl rfl rfl rfl rfl rfl coR_enters rfl (fun w' hA => hco w' hA) ?_
            refine RunOF_sound tab_ok noX_local rfl rfl 200 [] _ _ rfl ?_ ?_
            · simp [inT, lk, segsVals, relV_one']
            refine RunO.done ?_
            refine J _ ?_ ?_
            · exact ⟨⟨_, rfl, fun M => rfl⟩, ⟨_, rfl, fun M => rfl⟩, ⟨_, rfl, fun M => rfl⟩, trivial⟩
            · refine ⟨?_, ?_, ?_, trivial⟩ <;> simp [lk]
          · refine draw_leaf [] (LikeS.add 5 3 (LikeS.add 1 5 (LikeS.add 4 1 (LikeS.add 4 5 (LikeS.refl _))))) h rfl rfl ?_
            refine RunOF_sound tab_ok noX_local rfl rfl 200 [] _ _ rfl ?_ ?_
            · simp [inT, lk]
            refine RunO.callFn (r := encRel F) noX_local rfl rfl rfl rfl rfl rfl rfl rfl rfR_enters rfl (fun w' hA => hrf w' hA) ?_
            refine RunOF_sound tab_ok noX_local rfl rfl 200 [] _ _ rfl ?_ ?_
            · simp [inT, lk]
            refine RunO.callFn (r := encRel O) noX_local rfl rfl rfl rfl rfl rfl rfl rfl coR_enters rfl (fun w' hA => hco w' hA) ?_
            refine RunOF_sound tab_ok noX_local rfl rfl 200 [] _ _ rfl ?_ ?_
            · simp [inT, lk, segsVals, relV_one']
            refine RunO.done ?_
            refine J _ ?_ ?_
            · exact ⟨⟨_, rfl, fun M => rfl⟩, ⟨_, rfl, fun M => rfl⟩, ⟨_, rfl, fun M => rfl⟩, trivial⟩
            · refine ⟨?_, ?_, ?_, trivial⟩ <;> simp [lk]
        · refine draw_leaf [] (LikeS.add 5 1 (LikeS.add 4 1 (LikeS.add 4 5 (LikeS.refl _)))) h rfl rfl ?_
          refine RunOF_sound tab_ok noX_local rfl rfl 200 [] _ _ rfl ?_ ?_
          · simp [inT, lk]
          refine RunO.callFn (r := encRel F) noX_local rfl rfl rfl rfl rfl rfl rfl rfl rfR_enters rfl (fun w' hA => hrf w' hA) ?_
          refine RunOF_sound tab_ok noX_local rfl rfl 200 [] _ _ rfl ?_ ?_
          · simp
          refine RunO.callFn (r := encRel O) noX_local rfl rfl rfl rfl rfl rfl rfl rfl coR_enters rfl (fun w' hA => hco w' hA) ?_
          refine RunOF_sound tab_ok noX_local rfl rfl 200 [] _ _ rfl ?_ ?_
          · simp [inT, lk, segsVals, relV_one']
          refine RunO.done ?_
          refine J _ ?_ ?_
          · exact ⟨⟨_, rfl, fun M => rfl⟩, ⟨_, rfl, fun M => rfl⟩, ⟨_, rfl, fun M => rfl⟩, trivial⟩
          · refine ⟨?_, ?_, ?_, trivial⟩ <;> simp [lk]
    · rcases ord_fork' 1 5 rfl h with h | h
      · rcases ord_fork' 3 5 rfl h with h | h
        · refine draw_leaf [] (LikeS.add 3 5 (LikeS.add 1 5 (LikeS.add 5 4 (LikeS.refl _)))) h rfl rfl ?_
          refine RunOF_sound tab_ok noX_local rfl rfl 200 [] _ _ rfl ?_ ?_
          · simp
          refine RunO.callFn (r := encRel F) noX_local rfl rfl rfl rfl rfl rfl rfl rfl rfR_enters rfl (fun w' hA => hrf w' hA) ?_
          refine RunOF_sound tab_ok noX_local rfl rfl 200 [] _ _ rfl ?_ ?_
          · simp
          refine RunO.callFn (r := encRel O) noX_local rfl rfl rfl rfl rfl rfl rfl rfl coR_enters rfl (fun w' hA => hco w' hA) ?_
          refine RunOF_sound tab_ok noX_local rfl rfl 200 [] _ _ rfl ?_ ?_
          · simp [inT, lk, segsVals, relV_one']
          refine RunO.done ?_
          refine J2 _ ?_ ?_
          · exact ⟨rfl, rfl, rfl, trivial⟩
          · refine ⟨?_, ?_, ?_, trivial⟩ <;> simp [lk]
        · rcases ord_fork' 3 4 rfl h with h | h
          · refine draw_leaf [] (LikeS.add 3 4 (LikeS.add 5 3 (LikeS.add 1 5 (LikeS.add 5 4 (LikeS.refl _))))) h rfl rfl ?_
            refine RunOF_sound tab_ok noX_local rfl rfl 200 [] _ _ rfl ?_ ?_
            · simp
            refine RunO.callFn (r := encRel F) noX_local rfl rfl rfl rfl rfl rfl rfl rfl rfR_enters rfl (fun w' hA => hrf w' hA) ?_
            refine RunOF_sound tab_ok noX_local rfl rfl 200 [] _ _ rfl ?_ ?_
            · simp [inT, lk]
            refine RunO.callFn (r := encRel O) noX_local rfl rfl rfl rfl rfl rfl rfl rfl coR_enters rfl (fun w' hA => hco w' hA) ?_
            refine RunOF_sound tab_ok noX_local rfl rfl 200 [] _ _ rfl ?_ ?_
            · simp [inT, lk, segsVals, relV_one']
            refine RunO.done ?_
            refine J2 _ ?_ ?_
            · exact ⟨rfl, rfl, rfl, trivial⟩
            · refine ⟨?_, ?_, ?_, trivial⟩ <;> simp [lk]
          · refine draw_leaf [] (LikeS.add 4 3 (LikeS.add 5 3 (LikeS.add 1 5 (LikeS.add 5 4 (LikeS.refl _))))) h rfl rfl ?_
            refine RunOF_sound tab_ok noX_local rfl rfl 200 [] _ _ rfl ?_ ?_
            · simp
            refine RunO.callFn (r := encRel F) noX_local rfl rfl rfl rfl rfl rfl rfl rfl rfR_enters rfl (fun w' hA => hrf w' hA) ?_
            refine RunOF_sound tab_ok noX_local rfl rfl 200 [] _ _ rfl ?_ ?_
            · simp [inT, lk]
            refine RunO.callFn (r := encRel O) noX_local rfl rfl rfl rfl rfl rfl rfl rfl coR_enters rfl (fun w' hA => hco w' hA) ?_
            refine RunOF_sound tab_ok noX_local rfl rfl 200 [] _ _ rfl ?_ ?_
            · simp [inT, lk, segsVals, relV_one']
            refine RunO.done ?_
            refine J2 _ ?_ ?_
            · exact ⟨rfl, rfl, rfl, trivial⟩
            · refine ⟨?_, ?_, ?_, trivial⟩ <;> simp [lk]
      · rcases ord_fork' 1 4 rfl h with h | h
        · rcases ord_fork' 3 4 rfl h with h | h
          · refine draw_leaf [] (LikeS.add 3 4 (LikeS.add 1 4 (LikeS.add 5 1 (LikeS.add 5 4 (LikeS.refl _))))) h rfl rfl ?_
            refine RunOF_sound tab_ok noX_local rfl rfl 200 [] _ _ rfl ?_ ?_
            · simp [inT, lk]
            refine RunO.callFn (r := encRel F) noX_local rfl rfl rfl rfl rfl rfl rfl rfl rfR_enters rfl (fun w' hA => hrf w' hA) ?_
            refine RunOF_sound tab_ok noX_local rfl rfl 200 [] _ _ rfl ?_ ?_
            · simp
            refine RunO.callFn (r := encRel O) noX_local rfl rfl rfl rfl rfl rfl rfl rfl coR_enters rfl (fun w' hA => hco w' hA) ?_
            refine RunOF_sound tab_ok noX_local rfl rfl 200 [] _ _ rfl ?_ ?_
            · simp [inT, lk, segsVals, relV_one']
            refine RunO.done ?_
            refine J2 _ ?_ ?_
            · exact ⟨rfl, rfl, rfl, trivial⟩
            · refine ⟨?_, ?_, ?_, trivial⟩ <;> simp [lk]
          · refine draw_leaf [] (LikeS.add 4 3 (LikeS.add 1 4 (LikeS.add 5 1 (LikeS.add 5 4 (LikeS.refl _))))) h rfl rfl ?_
            refine RunOF_sound tab_ok noX_local rfl rfl 200 [] _ _ rfl ?_ ?_
            · simp [inT, lk]
            refine RunO.callFn (r := encRel F) noX_local rfl rfl rfl rfl rfl rfl rfl rfl rfR_enters rfl (fun w' hA => hrf w' hA) ?_
            refine RunOF_sound tab_ok noX_local rfl rfl 200 [] _ _ rfl ?_ ?_
            · simp [inT, lk]
            refine RunO.callFn (r := encRel O) noX_local rfl rfl rfl rfl rfl rfl rfl rfl coR_enters rfl (fun w' hA => hco w' hA) ?_
            refine RunOF_sound tab_ok noX_local rfl rfl 200 [] _ _ rfl ?_ ?_
            · simp [inT, lk, segsVals, relV_one']
            refine RunO.done ?_
            refine J2 _ ?_ ?_
            · exact ⟨rfl, rfl, rfl, trivial⟩
            · refine ⟨?_, ?_, ?_, trivial⟩ <;> simp [lk]
        · refine draw_leaf [] (LikeS.add 4 1 (LikeS.add 5 1 (LikeS.add 5 4 (LikeS.refl _)))) h rfl rfl ?_
          refine RunOF_sound tab_ok noX_local rfl rfl 200 [] _ _ rfl ?_ ?_
          · simp [inT, lk]
          refine RunO.callFn (r := encRel F) noX_local rfl rfl rfl rfl rfl rfl rfl rfl rfR_enters rfl (fun w' hA => hrf w' hA) ?_
          refine RunOF_sound tab_ok noX_local rfl rfl 200 [] _ _ rfl ?_ ?_
          · simp
          refine RunO.callFn (r := encRel O) noX_local rfl rfl rfl rfl rfl rfl rfl rfl coR_enters rfl (fun w' hA => hco w' hA) ?_
          refine RunOF_sound tab_ok noX_local rfl rfl 200 [] _ _ rfl ?_ ?_
          · simp [inT, lk, segsVals, relV_one']
          refine RunO.done ?_
          refine J2 _ ?_ ?_
          · exact ⟨rfl, rfl, rfl, trivial⟩
          · refine ⟨?_, ?_, ?_, trivial⟩ <;> simp [lk]
  refine RunF_sound tab_ok noX_local 200 [] _ _ rfl ?_ ?_
  · simp [fillL, Value.cells, segsVals, relV_tail_one, splice]
    try rfl
  suffices H : ∀ (d i : Nat), i + d = n → ∀ σ, inT σ.t [(2, .ptr 1 0), (3, .ptr 2 0), (4, .ptr 3 0), (5, .ptr 4 0), (6, .v (.int .i64 (i : Int)))] →
      inT σ.h [(1, .cells 32 [.vals 65 (relV (Rl.void 0))]), (2, .cells 32 [.vals 65 (relV F)]), (3, .cells 32 [.vals 65 (relV O)]), (4, .cells 32 [.vals 65 (relV (frP n F O i 0))])] → Run _ _ σ by
    refine H n 0 (by omega) _ ⟨rfl, rfl, rfl, rfl, rfl, trivial⟩ ⟨rfl, rfl, rfl, ?_, trivial⟩
    rw [frP_0, ← hFn]; rfl
  intro d
  induction d with
  | zero =>
    intro i hi σ ht hh
    refine Run.to ?_ ht hh (n' := 5)
    refine RunF_sound tab_ok noX_local 100 [false] _ _ rfl ?_ ?_
    · simp [relV_one', segsVals, hFn]; omega
    refine Run.retP tab_ok Tryd.func11 rfl ?_ (fun M => ?_)
    · simp
    rw [hZ, frL, show n = i by omega]; rfl
  | succ d ih =>
    intro i hi σ ht hh
    refine Run.to ?_ ht hh (n' := 5)
    have hi' : i < 64 := by omega
    refine RunF_sound tab_ok noX_local 100 [true] _ _ rfl ?_ ?_
    · simp [hFn]; omega
    suffices H2 : ∀ (e j : Nat), j + e = n → ∀ σ, inT σ.t [(2, .ptr 1 0), (3, .ptr 2 0), (4, .ptr 3 0), (5, .ptr 4 0), (6, .v (.int .i64 (i : Int))), (7, .v (.int .i64 (j : Int)))] →
        inT σ.h [(1, .cells 32 [.vals 65 (relV (Rl.void 0))]), (2, .cells 32 [.vals 65 (relV F)]), (3, .cells 32 [.vals 65 (relV O)]), (4, .cells 32 [.vals 65 (relV (frP n F O i j))])] → Run _ _ σ by
      exact H2 n 0 (by omega) _ ⟨rfl, rfl, rfl, rfl, rfl, rfl, trivial⟩ ⟨rfl, rfl, rfl, rfl, trivial⟩
    intro e
    induction e with
    | zero =>
      intro j hj σ ht hh
      refine Run.to ?_ ht hh (n' := 5)
      refine RunF_sound tab_ok noX_local 100 [false] _ _ rfl ?_ ?_
      · simp [hFn]; omega
      refine ih (i + 1) (by omega) _ ⟨rfl, rfl, rfl, rfl, i64_eq (wrap_succ (by omega)), trivial⟩ ⟨rfl, rfl, rfl, ?_, trivial⟩
      rw [← frP_row hFb, show j = n by omega]; rfl
    | succ e ihe =>
      intro j hj σ ht hh
      refine Run.to ?_ ht hh (n' := 5)
      have hj' : j < 64 := by omega
      have hbit := bit1 (F.row i) j
      by_cases c : (F.row i).getLsbD j = true
      · refine RunF_sound tab_ok noX_local 200 [true, true] _ _ rfl ?_ ?_
        · simp [hFn, wrapn j (by omega), relV_get _ _ hi', intAt_row _ _ hi', hbit, c]; omega
        refine Run.drawA noX_local rfl [] [(3, .cells 32 [.vals 65 (relV O)]), (4, .cells 32 [.vals 65 (relV (frP n F O i j))])] rfl rfl ⟨rfl, rfl, trivial⟩ ?_
        have e1 : intAt (relV (frP n F O i j)) (1 + j) = un ((frP n F O i j).row j) := intAt_row _ _ hj'
        have e2 : intAt (relV O) (1 + i) = un (O.row i) := intAt_row _ _ hi'
        refine RunOF_sound tab_ok noX_local rfl rfl 16 [] _ _ rfl ?_ ?_
        · simp [wrapn j (by omega), relV_get _ _ hj', relV_get _ _ hi', e1, e2]; omega
        refine RunO.effLast tab_ok noX_local rfl rfl rfl rfl ?_ (fun e => by cases e) rfl ?_
        · simp [okCell, Value.oneCell']; omega
        refine RunF_sound tab_ok noX_local 100 [] _ _ rfl ?_ ?_
        · simp
        refine ihe (j + 1) (by omega) _ ⟨rfl, rfl, rfl, rfl, rfl, i64_eq (wrap_succ (by omega)), trivial⟩ ⟨rfl, rfl, rfl, congrArg (fun l => some (Blk.cells 32 [.vals 65 l])) ?_, trivial⟩
        simp [e1, e2, wrapn j (by omega), shl1_un, relV_set _ _ hj', frP_yes hj' (show F.has i j = true from c)]
      · refine RunF_sound tab_ok noX_local 200 [true, false] _ _ rfl ?_ ?_
        · simp [hFn, wrapn j (by omega), relV_get _ _ hi', intAt_row _ _ hi', hbit, c]; omega
        refine ihe (j + 1) (by omega) _ ⟨rfl, rfl, rfl, rfl, rfl, i64_eq (wrap_succ (by omega)), trivial⟩ ⟨rfl, rfl, rfl, ?_, trivial⟩
        rw [← frP_no (show F.has i j = false by simpa [Rl.has] using c)]; rfl
theorem frR_enters : Enters Tryd.prog 11 := enters_mk Tryd.func11 (by decide) rfl
end Go.Proofs.YtehimiadpgbhmaaDoor

/-
  The abstract machine, thirty-third part: a range over a function whose outer part turns. Own work; over any program.
-/
namespace Go.AM
open Go.RowKit

theorem old_alloc (w : World) (o : Obj) {b : Nat} (hb : b < w.heap.size) : (w.alloc o).heap[b]? = w.heap[b]? := by
  first | exact heap_alloc_old _ _ hb | exact heap_alloc_old _ _ b hb

def roundRX {S : Type} (C : Ctx) (XS : S → Res) (D : Nat) (t : List (Nat × AV)) (a0 : Array Value) (l : Nat) (rc : Loop) (wy : World) (fpy : Foot) (Next : S → List (Nat × Blk) → Prop) (Stop : S → Code → List (Nat × Blk) → Prop) : Value → World → Prop := fun v w' =>
  ∃ fp', Grown fpy wy fp' w' ∧ (v = .bool true ∧ (∃ s h M fpX, Next s h ∧ LoopJ ((C.withX (XS s)).marked D) t a0 l rc .ready none h M fpX w' fp') ∨
    v = .bool false ∧ (∃ s c h M fpX, Stop s c h ∧ LoopJ ((C.withX (XS s)).marked D) t a0 l rc .done (some c) h M fpX w' fp'))

def plainT : List (Nat × AV) → Bool
  | [] => true
  | (_, .v _) :: r => plainT r
  | (_, .tt _) :: r => plainT r
  | _ :: _ => false

theorem plainT_lk : ∀ {l : List (Nat × AV)} {i : Nat} {x : AV}, plainT l = true → lk l i = some x → ∀ M M' : Loc, conc M x = conc M' x
  | [], i, x, _, h => by cases h
  | (j, y) :: r, i, x, hb, h => by
    simp only [lk] at h
    split at h
    · cases h
      cases y with
      | v _ => intro M M'; simp [conc]
      | tt _ => intro M M'; simp [conc]
      | _ => simp [plainT] at hb
    · cases y with
      | v _ => exact plainT_lk (show plainT r = true from hb) h
      | tt _ => exact plainT_lk (show plainT r = true from hb) h
      | _ => simp [plainT] at hb

theorem lkA {α : Type} {i : Nat} : ∀ {a b : List (Nat × α)}, lk (a ++ b) i = match lk a i with | some x => some x | none => lk b i
  | [], b => rfl
  | (j, y) :: a, b => by
    simp only [List.cons_append, lk]
    split
    · rfl
    · exact lkA

theorem Run.rangeFnX {C : Ctx} {S : Type} (XS : S → Res) (hLS : ∀ s, Local (XS s)) (s0 : S) (hX0 : C.X = XS s0) {k : List Item} {σ : St} {g : Operand} {ps : Array Tmp} {assign body : Code} {f : FuncId} {vs : List Value} {z : AV}
    (hro : C.b.roundOf = none) (hg : σ.ev g = some z) (hz : ∀ M, conc M z = .func (.func f) #[] vs.toArray) (hent : Enters C.P f)
    (lo : Nat) (tv t : List (Nat × AV)) (hvin : inT σ.t tv) (hvp : plainT tv = true) (htin : inT σ.t t) (hlo : keysLt lo t = true) (hps : psOK lo C.n.hi ps.toList = true)
    {K : Nat → Prop} {xs : List (List Value)} (hit : Iter C.P f vs K C.w0 xs) (hK : ∀ b, K b → b < C.w0.heap.size ∧ ¬ C.S0 b) (hlen : ∀ x ∈ xs, x.length = ps.size)
    (Inv : List (List Value) → S → List (Nat × Blk) → Prop) (Stop : List (List Value) → S → Code → List (Nat × Blk) → Prop) (N : Nat)
    (h0 : List (Nat × Blk)) (hI0 : Inv [] s0 h0) (hin : inT σ.h h0)
    (hround : ∀ D l a0 rc wy fpy pre x s h, RoundIn ((C.withX (XS s)).marked D) lo t l wy fpy → pre ++ [x] <+: xs → Inv pre s h →
      Run (roundC ((C.withX (XS s)).marked D) lo a0 l rc .ready wy fpy (roundRX C XS D t a0 l rc wy fpy (Inv (pre ++ [x])) (Stop (pre ++ [x])))) [.code assign, .beginRound, .code body] ⟨parT (ps.toList.zip x) (tv ++ t), h, N⟩)
    (hdone : ∀ D s h, Inv xs s h → Run ((C.withX (XS s)).marked D) k ⟨tv ++ t, h, N⟩)
    (hstop : ∀ D pre s c h, pre <+: xs → Stop pre s c h → Run ((C.withX (XS s)).marked D) (.code c :: k) ⟨tv ++ t, h, N⟩) :
    Run C (.code (.rangeFunc g ps assign body) :: k) σ := by
  have hL : Local C.X := by rw [hX0]; exact hLS s0
  intro M fp a w hR cs
  let D := w.heap.size
  let l := w.heap.size + 1
  let rc : Loop := { state := .ready, pending := none, fn := C.b.fn, tmps := a.tmps, params := ps, assign, body, defers := D }
  let W1 : World := (w.alloc (.deferred (some []))).alloc (.loop rc)
  let y : Value := .func (.yield l) #[] #[]
  have he : (Instr.enterLoop C.b.fn a.tmps ps assign body C.b.roundOf).run C.P w = .ok (l, [mark D]) W1 := by rw [hro]; exact run_enterLoop_outer C.b.fn a.tmps ps assign body
  have hres : (resolve a.eval (rangeCall g l) 0).run C.P W1 = .ok { target := .fn (.func f) vs.toArray, args := #[y] } W1 := by
    simp [resolve, hR.q.ev hg, hz, Deferred.ofValue, y]
    rfl
  have hinv : (invoke (.fn (.func f) vs.toArray) #[y]).run C.P W1 = .ok (.enter f (y :: vs).toArray) W1 := by
    have : (#[y] ++ vs.toArray : Array Value) = (y :: vs).toArray := by simp
    simp only [invoke, this, hent _ _]
  have s1 := stepR_rangeFunc (P := C.P) (b := C.b) (a := a) (k := k) (cs := cs) (w := w) he hres hinv
  have hws : W1.heap.size = w.heap.size + 2 := by simp only [W1, World.size_alloc]
  have hold : ∀ b, b < w.heap.size → W1.heap[b]? = w.heap[b]? := by
    intro b hb
    simp only [W1]
    rw [old_alloc _ _ (by rw [World.size_alloc]; omega), old_alloc _ _ hb]
  have hD : W1.heap[D]? = some (.deferred (some [])) := by
    simp only [W1, D]
    rw [old_alloc _ _ (by rw [World.size_alloc]; omega)]
    exact World.alloc_heap_new _ _
  have hl : W1.heap[l]? = some (.loop rc) := by
    have := World.alloc_heap_new (w.alloc (.deferred (some []))) (.loop rc)
    rw [show (w.alloc (.deferred (some []))).heap.size = l by simp only [World.size_alloc, l]] at this
    exact this
  have hblk : ∀ id B, lk h0 id = some B → lk σ.h id = some B := fun id B hB => inT_lk hin id B hB
  let J : List (List Value) → Res := fun pre w fp => ∃ s h M fpX, Inv pre s h ∧ LoopJ ((C.withX (XS s)).marked D) t a.tmps l rc .ready none h M fpX w fp
  let Js : List (List Value) → Res := fun pre w fp => ∃ s c h M fpX, Stop pre s c h ∧ LoopJ ((C.withX (XS s)).marked D) t a.tmps l rc .done (some c) h M fpX w fp
  have hLm : ∀ s, Local ((C.withX (XS s)).marked D).X := fun s => markX_local (hLS s) D
  have hJl : ∀ pre, Local (J pre) := fun pre w w' fp ⟨s, h, M, fpX, h1, h2⟩ _ hs => ⟨s, h, M, fpX, h1, h2.moved (hLm s) hs⟩
  have hJsl : ∀ pre, Local (Js pre) := fun pre w w' fp ⟨s, c, h, M, fpX, h1, h2⟩ _ hs => ⟨s, c, h, M, fpX, h1, h2.moved (hLm s) hs⟩
  let fp1 : Foot := fun b => (fp b ∨ b = D) ∨ b = l ∨ ∃ id B, lk h0 id = some B ∧ (M id).1 = b
  have hfl : ∀ b, fp b → b < w.heap.size := fun b hb => (hR.fpok b hb).1
  have hml : ∀ id B, lk h0 id = some B → (M id).1 < w.heap.size := fun id B hB => (hR.heap _ _ (hblk _ _ hB)).lt
  have hwle : C.w0.heap.size ≤ w.heap.size := hR.agree.size
  have hfp1 : ∀ b, fp1 b → b < W1.heap.size ∧ (b < C.w0.heap.size → C.S0 b) := by
    intro b hb
    rw [hws]
    rcases hb with (hb | rfl) | rfl | ⟨id, B, hB, rfl⟩
    · exact ⟨by have := hfl b hb; omega, (hR.fpok b hb).2⟩
    · exact ⟨by simp only [D]; omega, fun h => by simp only [D] at h; omega⟩
    · exact ⟨by simp only [l]; omega, fun h => by simp only [l] at h; omega⟩
    · exact ⟨by have := hml _ _ hB; omega, hR.own _ _ (hblk _ _ hB)⟩
  have hW1 : Agree C.S0 C.w0 W1 := ⟨hR.agree.os, hR.agree.tape, hR.agree.output, by rw [hws]; omega, fun b hb hs => by rw [hold b (by omega)]; exact hR.agree.block b hb hs⟩
  have hJ0 : J [] W1 fp1 := by
    refine ⟨s0, h0, M, fun b => fp b ∨ b = D, hI0, ?_⟩
    refine { tmps := fun i x hx => hR.tmps i x (inT_lk htin i x hx), heap := ?_, inj := ?_, own := ?_, apart := ?_, outer := ?_, fpok := ?_, rc := hl, lX := ?_, lnew := ?_, foot := fun b => Iff.rfl }
    · exact fun id B hB => (hR.heap _ _ (hblk _ _ hB)).same (hold _ (hml _ _ hB))
    · exact fun id id' B B' hB hB' e => hR.inj _ _ _ _ (hblk _ _ hB) (hblk _ _ hB') e
    · exact fun id B hB => hR.own _ _ (hblk _ _ hB)
    · intro id B hB
      have := hml _ _ hB
      refine ⟨fun hf => ?_, fun e => by simp only [l] at e; omega⟩
      rcases hf with hf | hf
      · exact hR.apart _ _ (hblk _ _ hB) hf
      · simp only [D] at hf; omega
    · exact ⟨fp, hX0 ▸ hL w W1 fp hR.outer hfl (fun b hb => hold b (hfl b hb)), fun hf => Nat.lt_irrefl _ (hfl _ hf), hD, fun b => Iff.rfl⟩
    · intro b hb
      exact hfp1 b (.inl hb)
    · intro hf
      rcases hf with hf | hf
      · have := hfl _ hf; simp only [l] at this; omega
      · simp only [l, D] at hf; omega
    · show C.w0.heap.size ≤ l
      simp only [l]; omega
  have hvt : ∀ M' : Loc, (∀ i x, lk t i = some x → a.tmps[i]? = some (conc M' x)) → ∀ i x, lk (tv ++ t) i = some x → a.tmps[i]? = some (conc M' x) := fun M' h i x hx => by
    rw [lkA] at hx
    split at hx
    · rename_i z hz
      cases hx
      rw [plainT_lk hvp hz M' M]
      exact hR.tmps i x (inT_lk hvin i x hz)
    · exact h i x hx
  have hys : ∀ pre x, pre ++ [x] <+: xs → Yields C.P y J Js W1 fp1 pre x := by
    intro pre x hpx wy fpy hJy hgr
    obtain ⟨sx, h, M', fpX, hinvp, hJ⟩ := hJy
    have hx : x.length = ps.size := hlen x (hpx.subset (by simp))
    have hag : Agree C.S0 C.w0 wy := hW1.trans hgr.1 (fun i hi hl => (hfp1 i hi).2 hl)
    have hfy : ∀ b, fpy b → b < C.w0.heap.size → C.S0 b := fun b hb hlt => (hfp1 b ((hgr.2 b hb).2 (by have := hW1.size; omega))).2 hlt
    have hrun := run_yield (P := C.P) (args := x.toArray) hJ.rc (by simpa using hx)
    refine ⟨{ target := .fn (.yield l) #[], args := x.toArray }, _, by simp [Deferred.ofValue, y], by simp only [invoke]; exact hrun, ?_⟩
    intro c cs'
    have hpr := parT_run (M := M') (lo := lo) (ps.toList.zip x) (tv ++ t) a.tmps (fun q hq => by
      have := psOK_mem hps q.1 (List.of_mem_zip hq).1
      rw [hR.size]; exact this) (hvt M' hJ.tmps)
    have htm : (ps.zip x.toArray).foldl (fun tmps (q : Nat × Value) => tmps.setIfInBounds q.1 q.2) a.tmps = (ps.toList.zip x).foldl (fun tm q => tm.setIfInBounds q.1 q.2) a.tmps := by
      rw [← Array.foldl_toList]; simp
    let a' : Act := { tmps := (ps.toList.zip x).foldl (fun tm q => tm.setIfInBounds q.1 q.2) a.tmps, defers := [] }
    have hI : RoundIn ((C.withX (XS sx)).marked D) lo t l wy fpy := ⟨hLm sx, (hJ.foot l).2 (.inr (.inl rfl)), hag, hfy, hJ.lnew, hlo⟩
    have hrel : Rel (roundC ((C.withX (XS sx)).marked D) lo a.tmps l rc .ready wy fpy (roundRX C XS D t a.tmps l rc wy fpy (Inv (pre ++ [x])) (Stop (pre ++ [x])))) M' (fun b => fpX b ∨ b = l) ⟨parT (ps.toList.zip x) (tv ++ t), h, N⟩ a' wy := by
      refine { heap := hJ.heap, inj := hJ.inj, own := ?_, apart := ?_, agree := Agree.refl _ _, outer := ⟨fpX, hJ.outer, hJ.lX, hJ.rc, fun b => Iff.rfl⟩, fpok := ?_, size := ?_, frozen := hpr.2.1, tmps := hpr.2.2, defers := rfl }
      · exact fun id B hB _ => (hJ.foot _).2 (.inr (.inr ⟨id, B, hB, rfl⟩))
      · exact fun id B hB hf => hf.elim (hJ.apart _ _ hB).1 (hJ.apart _ _ hB).2
      · intro b hb
        have hb' : fpy b := (hJ.foot b).2 (hb.imp id .inl)
        exact ⟨(hgr.2 b hb').1, fun _ => hb'⟩
      · show a'.tmps.size = C.n.hi
        simp only [a']; rw [hpr.1, hR.size]
    obtain ⟨m, s, zz⟩ := hround D l a.tmps rc wy fpy pre x sx h hI hpx hinvp M' _ a' wy hrel (c :: cs')
    obtain ⟨v, w', rfl, fp', hg', hv⟩ := zz c cs' rfl
    refine ⟨v, w', ⟨fp', hg', ?_⟩, ?_⟩
    · rcases hv with ⟨hv, hh⟩ | ⟨hv, hh⟩
      · exact .inl ⟨hv, hh⟩
      · exact .inr ⟨hv, hh⟩
    · have hfr : Frame.round l C.b.fn ((ps.zip x.toArray).foldl (fun tmps (q : Nat × Value) => tmps.setIfInBounds q.1 q.2) a.tmps) assign body .normal =
          (roundC ((C.withX (XS sx)).marked D) lo a.tmps l rc .ready wy fpy (roundRX C XS D t a.tmps l rc wy fpy (Inv (pre ++ [x])) (Stop (pre ++ [x])))).b.atR a' [.code assign, .beginRound, .code body] := by
        rw [htm]; simp [Frame.round, Frame.atR, roundC, Ctx.marked, a']
      exact hfr ▸ s
  have hcall := hit y J Js W1 fp1 hJl hJsl hys hJ0 (fun b hb => (hfp1 b hb).1) (fun b hb hk => (hK b hk).2 ((hfp1 b hb).2 (hK b hk).1))
    ⟨hW1.os, hW1.tape, hW1.output, hW1.size, fun b hb hk => hW1.block b hb (fun hs => by
      have : K b := Classical.byContradiction hk
      exact (hK b this).2 hs)⟩
  obtain ⟨e, w', fr, ⟨v, rfl, fp', hgr, hend⟩, hsteps, _, hleave⟩ := hcall (C.b.atR { a with defers := [mark D] ++ a.defers } (.inRangeFunc l :: k) :: cs)
  have s2 := step_leave_returned (c := C.b.atR { a with defers := [mark D] ++ a.defers } (.inRangeFunc l :: k)) (cs := cs) hleave
  rw [finish_atR_inRangeFunc] at s2
  have hag : Agree C.S0 C.w0 w' := hW1.trans hgr.1 (fun i hi hl => (hfp1 i hi).2 hl)
  have key : ∀ (sx : S) (st : LoopState) (pd : Option Code) (h : List (Nat × Blk)) (M' : Loc) (fpX : Foot), st ≠ .busy → LoopJ ((C.withX (XS sx)).marked D) t a.tmps l rc st pd h M' fpX w' fp' →
      Run ((C.withX (XS sx)).marked D) ((pd.map Item.code).toList ++ k) ⟨tv ++ t, h, N⟩ → ∃ m, Steps C.P (lone (C.b.atR a (.code (.rangeFunc g ps assign body) :: k)) cs w) m ∧ C.Z cs m := by
    intro sx st pd h M' fpX hst hJ hr
    obtain ⟨k1, k2, k3⟩ := hJ.record (hLm sx) (o := .loop { rc with state := .exhausted, pending := pd })
    have hrel : Rel ((C.withX (XS sx)).marked D) M' fpX ⟨tv ++ t, h, N⟩ { a with defers := [mark D] ++ a.defers } (w'.putObj l (.loop { rc with state := .exhausted, pending := pd })) := by
      refine { heap := k1, inj := hJ.inj, own := hJ.own, apart := fun id B hB => (hJ.apart _ _ hB).1, agree := ?_, outer := k2, fpok := k3, size := hR.size, frozen := hR.frozen, tmps := hvt M' hJ.tmps, defers := ?_ }
      · refine agree_putObj hag (fun h => ?_)
        have : C.w0.heap.size ≤ l := hJ.lnew
        exact absurd (show l < C.w0.heap.size from h) (by omega)
      · show [mark D] ++ a.defers = mark D :: C.ds
        rw [hR.defers]; rfl
    obtain ⟨m, s, zz⟩ := hr M' fpX _ _ hrel cs
    have s3 := stepR_endRangeFunc (P := C.P) (b := C.b) (a := { a with defers := [mark D] ++ a.defers }) (k := k) (cs := cs) (run_endLoop (P := C.P) hJ.rc hst)
    exact ⟨m, .head s1 (Steps.trans hsteps (.head s2 (.head s3 s))), zz⟩
  rcases hend with ⟨sx, h, M', fpX, hI, hJ⟩ | ⟨pre, hpre, sx, c, h, M', fpX, hS, hJ⟩
  · exact key sx .ready none h M' fpX (by simp) hJ (hdone D sx h hI)
  · exact key sx .done (some c) h M' fpX (by simp) hJ (hstop D pre sx c h hpre hS)


/-- A round may end in more ways. -/
theorem Run.roundMono {C : Ctx} {lo : Nat} {a0 : Array Value} {l : Nat} {rc : Loop} {st : LoopState} {wy : World} {fpy : Foot} {Rr Rr' : Value → World → Prop} {todo : List Item} {σ : St} (h : ∀ v w, Rr v w → Rr' v w)
    (hr : Run (roundC C lo a0 l rc st wy fpy Rr) todo σ) : Run (roundC C lo a0 l rc st wy fpy Rr') todo σ := fun M fp a w hR cs => by
  obtain ⟨m, s, z⟩ := hr M fp a w { heap := hR.heap, inj := hR.inj, own := hR.own, apart := hR.apart, agree := hR.agree, outer := hR.outer, fpok := hR.fpok, size := hR.size, frozen := hR.frozen, tmps := hR.tmps, defers := hR.defers } cs
  refine ⟨m, s, fun c cs' e => ?_⟩
  obtain ⟨v, w', e1, h1⟩ := z c cs' e
  exact ⟨v, w', e1, h _ _ h1⟩
theorem roundRX_of {S : Type} {C : Ctx} {XS : S → Res} {D : Nat} {t : List (Nat × AV)} {a0 : Array Value} {l : Nat} {rc : Loop} {wy : World} {fpy : Foot} {Next : S → List (Nat × Blk) → Prop} {Stop : S → Code → List (Nat × Blk) → Prop} (s : S) :
    ∀ v w, roundR ((C.withX (XS s)).marked D) t a0 l rc wy fpy (Next s) (Stop s) v w → roundRX C XS D t a0 l rc wy fpy Next Stop v w := by
  rintro v w ⟨fp', hg, ⟨hv, h⟩ | ⟨hv, c, h⟩⟩
  · exact ⟨fp', hg, .inl ⟨hv, s, h⟩⟩
  · exact ⟨fp', hg, .inr ⟨hv, s, c, h⟩⟩
end Go.AM

/-
  The abstract machine, twenty-second part: calls that hand over blocks which they have made. Own work; over any program.
-/
namespace Go.AM

mutual
def AV.ge (n : Nat) : AV → Bool
  | .v _ => true
  | .tt _ => true
  | .ptr id _ => Nat.ble n id
  | .elt id _ _ => Nat.ble n id
  | .mp id => Nat.ble n id
  | .sl id _ _ _ => Nat.ble n id
  | .fn _ caps => geL n caps
  | .agg l => geL n l
  | .tup l => geL n l
def geL (n : Nat) : List AV → Bool
  | [] => true
  | x :: r => match x.ge n with | true => geL n r | false => false
end

mutual
theorem conc_congrG {M M' : Loc} {n : Nat} (h : ∀ i, n ≤ i → M' i = M i) : ∀ x : AV, x.ge n = true → conc M' x = conc M x
  | .v _, _ => by simp [conc]
  | .tt _, _ => by simp [conc]
  | .ptr id off, hb => by simp [AV.ge] at hb; simp [conc, h id hb]
  | .elt id off j, hb => by simp [AV.ge] at hb; simp [conc, h id hb]
  | .mp id, hb => by simp [AV.ge] at hb; simp [conc, h id hb]
  | .sl id sz off len, hb => by simp [AV.ge] at hb; simp [conc, h id hb]
  | .fn f caps, hb => by simp only [AV.ge] at hb; simp only [conc, concL_congrG h caps hb]
  | .agg l, hb => by simp only [AV.ge] at hb; simp only [conc, concL_congrG h l hb]
  | .tup l, hb => by simp only [AV.ge] at hb; simp only [conc, concL_congrG h l hb]
theorem concL_congrG {M M' : Loc} {n : Nat} (h : ∀ i, n ≤ i → M' i = M i) : ∀ l : List AV, geL n l = true → concL M' l = concL M l
  | [], _ => by simp [concL]
  | x :: r, hb => by
    simp only [geL] at hb
    split at hb
    · rename_i hx; simp only [concL, conc_congrG h x hx, concL_congrG h r hb]
    · cases hb
end

def geSegs (n : Nat) : List Seg → Bool
  | [] => true
  | .one x :: r => match x.ge n with | true => geSegs n r | false => false
  | .vals _ _ :: r => geSegs n r

theorem concSegs_congrG {M M' : Loc} {n : Nat} (h : ∀ i, n ≤ i → M' i = M i) : ∀ l : List Seg, geSegs n l = true → concSegs M' l = concSegs M l
  | [], _ => rfl
  | .one x :: r, hb => by
    simp only [geSegs] at hb
    split at hb
    · rename_i hx; simp only [concSegs, conc_congrG h x hx, concSegs_congrG h r hb]
    · cases hb
  | .vals _ vs :: r, hb => by simp only [geSegs] at hb; simp only [concSegs, concSegs_congrG h r hb]

def Blk.ge (n : Nat) : Blk → Bool
  | .cells _ segs => geSegs n segs
  | .row .. => true
  | .map _ => true
  | .rowA _ _ _ xs => geL n xs

/-- New blocks: numbered from n on, below m, over each other alone. -/
def hGe (n m : Nat) : List (Nat × Blk) → Bool
  | [] => true
  | (i, B) :: r => match Nat.ble n i, Nat.blt i m, B.ge n, B.bel m with | true, true, true, true => hGe n m r | _, _, _, _ => false

theorem hGe_lk {n m : Nat} : ∀ {l : List (Nat × Blk)} {i : Nat} {B : Blk}, hGe n m l = true → lk l i = some B → n ≤ i ∧ i < m ∧ B.ge n = true ∧ B.bel m = true
  | [], i, x, _, h => by cases h
  | (j, y) :: r, i, x, hb, h => by
    simp only [hGe] at hb
    split at hb
    · rename_i h1 h2 h3 h4
      simp only [lk] at h
      split at h
      · rename_i he
        have := Nat.eq_of_beq_eq_true he
        subst this; cases h
        exact ⟨Nat.le_of_ble_eq_true h1, by simpa using h2, h3, h4⟩
      · exact hGe_lk hb h
    · cases hb

theorem lk_append {α : Type} {i : Nat} : ∀ {a b : List (Nat × α)}, lk (a ++ b) i = match lk a i with | some x => some x | none => lk b i
  | [], b => rfl
  | (j, y) :: a, b => by
    simp only [List.cons_append, lk]
    split
    · rfl
    · exact lk_append

theorem BlkAt.congrG {M M' : Loc} {n : Nat} (h : ∀ i, n ≤ i → M' i = M i) {w : World} {id : Nat} (hid : n ≤ id) {B : Blk} (hB : B.ge n = true) (hb : BlkAt M w id B) : BlkAt M' w id B := by
  cases B with
  | cells e segs => exact ⟨by rw [h id hid, concSegs_congrG h segs hB]; exact hb.1, hb.2⟩
  | row e sz n vs =>
    obtain ⟨h1, cur, hc, h2⟩ := hb
    exact ⟨h1, cur, by rw [h id hid]; exact hc, by rw [h id hid]; exact h2⟩
  | map es => obtain ⟨a, ck, hc, h2⟩ := hb; exact ⟨a, ck, by rw [h id hid]; exact hc, h2⟩
  | rowA e sz n xs =>
    obtain ⟨h1, cur, hc, h2⟩ := hb
    exact ⟨h1, cur, by rw [h id hid]; exact hc, by rw [h id hid, concL_congrG h xs hB]; exact h2⟩

/-- What a call hands over: a value over blocks that it has made. -/
structure Handed (z : AV) (h : List (Nat × Blk)) (w : World) (v : Value) (w' : World) : Prop where
  agree : Agree (fun _ => False) w w'
  ex : ∃ M : Loc, conc M z = v ∧ (∀ id B, lk h id = some B → BlkAt M w' id B ∧ w.heap.size ≤ (M id).1) ∧ ∀ id id' B B', lk h id = some B → lk h id' = some B' → (M id).1 = (M id').1 → id = id'

theorem Rel.handed {C : Ctx} (hL : Local C.X) {M : Loc} {fp : Nat → Prop} {σ : St} {a : Act} {w w' : World} {v : Value} {z : AV} {h : List (Nat × Blk)} {m : Nat} (hR : Rel C M fp σ a w) (hh : Handed z h w v w')
    (hbel : σ.bel = true) (hge : hGe σ.nx m h = true) (hz : z.ge σ.nx = true) (hm : σ.nx ≤ m) : ∃ M', conc M' z = v ∧ (∀ i, i < σ.nx → M' i = M i) ∧ Rel C M' fp ⟨σ.t, h ++ σ.h, m⟩ a w' := by
  obtain ⟨hag, Mh, hv, hbl, hin⟩ := hh
  have hR' := hR.agree' hL hag
  unfold St.bel at hbel
  split at hbel <;> first | (cases hbel; done) | skip
  rename_i ht
  let M' : Loc := fun i => if i < σ.nx then M i else Mh i
  have hlo : ∀ i, i < σ.nx → M' i = M i := fun i hi => by simp only [M', if_pos hi]
  have hhi : ∀ i, σ.nx ≤ i → M' i = Mh i := fun i hi => by simp only [M', if_neg (Nat.not_lt.2 hi)]
  have key : ∀ id B, lk (h ++ σ.h) id = some B → (σ.nx ≤ id ∧ lk h id = some B) ∨ (id < σ.nx ∧ lk σ.h id = some B) := by
    intro id B hB
    rw [lk_append] at hB
    split at hB
    · rename_i x hx
      cases hB
      exact .inl ⟨(hGe_lk hge hx).1, hx⟩
    · exact .inr ⟨(lkh_below hbel hB).1, hB⟩
  refine ⟨M', by rw [conc_congrG hhi z hz]; exact hv, hlo, ?_⟩
  have hadr : ∀ id B, lk h id = some B → w.heap.size ≤ (M' id).1 := fun id B hB => by rw [hhi id (hGe_lk hge hB).1]; exact (hbl id B hB).2
  have hadr' : ∀ id B, lk σ.h id = some B → (M' id).1 = (M id).1 ∧ (M id).1 < w.heap.size := fun id B hB => ⟨by rw [hlo id (lkh_below hbel hB).1], (hR.heap id B hB).lt⟩
  refine { heap := ?_, inj := ?_, own := ?_, apart := ?_, agree := hR'.agree, outer := hR'.outer, fpok := hR'.fpok, size := hR'.size, frozen := hR'.frozen, tmps := ?_, defers := hR'.defers }
  · intro id B hB
    rcases key id B hB with ⟨h1, h2⟩ | ⟨h1, h2⟩
    · exact BlkAt.congrG hhi h1 (hGe_lk hge h2).2.2.1 (hbl id B h2).1
    · exact BlkAt.congr hlo h1 (lkh_below hbel h2).2 rfl (hR'.heap id B h2)
  · intro id id' B B' hB hB' e
    rcases key id B hB with ⟨h1, h2⟩ | ⟨h1, h2⟩ <;> rcases key id' B' hB' with ⟨h3, h4⟩ | ⟨h3, h4⟩
    · rw [hhi id h1, hhi id' h3] at e; exact hin _ _ _ _ h2 h4 e
    · have := hadr id B h2; have := hadr' id' B' h4; omega
    · have := hadr id' B' h4; have := hadr' id B h2; omega
    · rw [hlo id h1, hlo id' h3] at e; exact hR.inj _ _ _ _ h2 h4 e
  · intro id B hB hlt
    rcases key id B hB with ⟨h1, h2⟩ | ⟨h1, h2⟩
    · have := hadr id B h2; have := hR.agree.size; omega
    · rw [(hadr' id B h2).1] at hlt ⊢; exact hR.own id B h2 hlt
  · intro id B hB hf
    rcases key id B hB with ⟨h1, h2⟩ | ⟨h1, h2⟩
    · have := hadr id B h2; have := (hR.fpok _ hf).1; omega
    · rw [(hadr' id B h2).1] at hf; exact hR.apart id B h2 hf
  · intro i x hx
    rw [hR.tmps i x hx]
    congr 1
    exact (conc_congr hlo x (lk_below ht hx)).symm

section
variable {C : Ctx} {ops : Array Oper} {i : Nat} {rest : List Nat} {k : List Item} {σ : St} {o : Oper} {c : Call} {g : Operand} {f : FuncId} {caps xs : List AV} {z : AV} {h : List (Nat × Blk)} {m : Nat}

/-- A call that hands over new blocks. -/
theorem Run.callH (hL : Local C.X) (z : AV) (h : List (Nat × Blk)) (m : Nat) (ho : ops[i]? = some o) (hop : o.op = .call c) (hc : c.callee = .value g) (hg : σ.ev g = some (.fn f caps)) (hxs : evs σ c.args.toList = some xs) (hw : wantOf ops σ o = some .yes) (hent : Enters C.P f)
    (hd : dstOK C.n o.dst = true) (hbel : σ.bel = true) (hge : hGe σ.nx m h = true) (hz : z.ge σ.nx = true) (hm : Nat.ble σ.nx m = true)
    (hfn : ∀ M w, (∀ id B, lk σ.h id = some B → BlkAt M w id B) → Agree C.S0 C.w0 w → GivesR C.P f (concL M (xs ++ caps)) w (Handed z h w))
    (hr : Run C (.inRegion ops rest :: k) (St.put ⟨σ.t, h ++ σ.h, m⟩ o.dst z)) : Run C (.inRegion ops (i :: rest) :: k) σ := by
  refine Run.call (σ' := ⟨σ.t, h ++ σ.h, m⟩) (z := z) ho hop hc hg hxs hw hent hd ?_ hr
  intro M fp a w hR
  refine Calls.mono' (hfn M w hR.heap hR.agree) fun e w' ⟨v, h1, h2⟩ => ?_
  obtain ⟨M', hv, _, hR'⟩ := hR.handed hL h2 hbel hge hz (Nat.le_of_ble_eq_true hm)
  exact ⟨v, h1, M', fp, hR', hv⟩

theorem handed_of {M : Loc} {σ : St} {w0 w : World} {x : AV} {ρ : List (Nat × Nat)} (hag : Agree (fun _ => False) w0 w) (hheap : ∀ id B, lk σ.h id = some B → BlkAt M w id B)
    (hinj : ∀ id id' B B', lk σ.h id = some B → lk σ.h id' = some B' → (M id).1 = (M id').1 → id = id') (hown : ∀ id B, lk σ.h id = some B → w0.heap.size ≤ (M id).1)
    (hx : x = ren ρ z) (hh : inHR ρ σ.h h) (ha : apart ρ (keys h) = true) : Handed z h w0 (conc M x) w := by
  refine ⟨hag, fun i => M (ap ρ i), by rw [hx, conc_ren], fun id B hB => ⟨(hheap _ _ (inHR_lk hh _ _ hB)).ren, hown _ _ (inHR_lk hh _ _ hB)⟩, ?_⟩
  intro id id' B B' hB hB' e
  exact apart_spec ha (lk_keys hB) (lk_keys hB') (hinj _ _ _ _ (inHR_lk hh _ _ hB) (inHR_lk hh _ _ hB') e)

/-- The return of what has been made. -/
theorem Run.retH {P : Program} {T : Tab} (hT : tabOK P T) {f : FuncId} {fn : Func} {n : Nat} {w0 : World} {σ : St} {k : List Item} {p : Prop} {l : List AV} (ρ : List (Nat × Nat))
    (hf : P.funcs[f]? = some fn) (hres : resOf T w0 (fun _ => False) σ fn.results.toList = some (p, l)) (hp : p) (hx : resAV l = ren ρ z) (hh : inHR ρ σ.h h) (ha : apart ρ (keys h) = true) :
    Run (fnC P f n w0 (fun _ => False) noX (Handed z h w0)) (.code .ret :: k) σ :=
  Run.ret hT hf hres hp fun M fp a w hR => handed_of hR.agree hR.heap hR.inj (fun id B hB => Nat.le_of_not_lt fun hlt => (hR.own id B hB hlt).elim) hx hh ha

/-- The same behind ranges over functions, in a run that has begun anew. -/
theorem Run.retHB {P : Program} {T : Tab} (hT : tabOK P T) {f : FuncId} {fn : Func} {n : Nat} {w0 w1 : World} {S : Nat → Prop} {X : Res} (hX : Local X) {σ : St} {k : List Item} {p : Prop} {l : List AV} {Ds : List Nat} (ρ : List (Nat × Nat))
    (hB : Based w0 w1 S) (hf : P.funcs[f]? = some fn) (hres : resOf T w1 S σ fn.results.toList = some (p, l)) (hp : p) (hx : resAV l = ren ρ z) (hh : inHR ρ σ.h h) (ha : apart ρ (keys h) = true) :
    Run (fnM P f n w1 S X (Handed z h w0) Ds) (.code .ret :: k) σ :=
  Run.retM hT hX hf hres hp fun M fp a w hR => handed_of (hB.later hR.agree) hR.heap hR.inj
    (fun id B hB' => Nat.le_of_not_lt fun hlt => by
      have h1 := hR.own id B hB' (Nat.lt_of_lt_of_le hlt hB.agree.size)
      have := hB.new _ h1
      omega) hx hh ha

abbrev HandsZ (P : Program) (f : FuncId) (args : List Value) (w : World) (z : AV) (h : List (Nat × Blk)) : Prop := GivesR P f args w (Handed z h w)

theorem HandsZ.of_run {P : Program} {f : FuncId} {fn : Func} {c : Code} {args : List Value} {w : World} (hf : P.funcs[f]? = some fn) (hb : fn.body = some c)
    (hn : args.length ≤ fn.ntmps) (hr : Run (fnC P f fn.ntmps w (fun _ => False) noX (Handed z h w)) [.code c] ⟨argsT 0 args, [], 0⟩) : HandsZ P f args w z h := calls_of_run hf hb hn hr
end
end Go.AM

/-
  The abstract machine, twenty-third part: iterators that hand over blocks which they have made. Own work; over any program.
-/
namespace Go.AM

/-- A value over blocks of a footprint. -/
structure ItemAt (z : AV) (h : List (Nat × Blk)) (w : World) (v : Value) (F : Foot) : Prop where
  ex : ∃ M : Loc, conc M z = v ∧ (∀ id B, lk h id = some B → BlkAt M w id B) ∧ (∀ id id' B B', lk h id = some B → lk h id' = some B' → (M id).1 = (M id').1 → id = id') ∧ ∀ b, F b ↔ ∃ id B, lk h id = some B ∧ (M id).1 = b

/-- What a call of an iterator's argument does, the value handed over lying in blocks that go with it. -/
def YieldsH {α : Type} (P : Program) (y : Value) (J Js : List α → Res) (w1 : World) (fp1 : Foot) (pre : List α) (x : α) (z : AV) (h : List (Nat × Blk)) : Prop :=
  ∀ w fp F v, J pre w fp → ItemAt z h w v F → (∀ b, F b → ¬ fp b) → Grown fp1 w1 (fun b => fp b ∨ F b) w → CallsV P y [v] w fun r w' =>
    ∃ fp', Grown (fun b => fp b ∨ F b) w fp' w' ∧ (r = .bool true ∧ J (pre ++ [x]) w' fp' ∨ r = .bool false ∧ Js (pre ++ [x]) w' fp')

def disj (ρ : List (Nat × Nat)) (l r : List Nat) : Bool := l.all fun i => r.all fun j => !Nat.beq (ap ρ i) j

theorem disj_spec {ρ : List (Nat × Nat)} {l r : List Nat} (h : disj ρ l r = true) {i j : Nat} (hi : i ∈ l) (hj : j ∈ r) : ap ρ i ≠ j := by
  have := List.all_eq_true.1 (List.all_eq_true.1 h i hi) j hj
  intro e
  subst e
  simp at this

theorem Run.yieldH {α : Type} {C : Ctx} {k : List Item} {σ : St} {ops : Array Oper} {i : Nat} {rest : List Nat} {o : Oper} {c : Call} {g : Operand} {y : Value} {u z : AV} {h hrem : List (Nat × Blk)} {J Js : List α → Res} {pre : List α} {x : α} (ρ : List (Nat × Nat))
    (hX : C.X = J pre) (hy : YieldsH C.P y J Js C.w0 C.S0 pre x z h)
    (ho : ops[i]? = some o) (hop : o.op = .call c) (hc : c.callee = .value g) (hg : σ.ev g = some (.v y)) (hxs : evs σ c.args.toList = some [u]) (hu : u = ren ρ z) (hh : inHR ρ σ.h h) (ha : AM.apart ρ (keys h) = true)
    (hrm : inT σ.h hrem) (hdj : disj ρ (keys h) (keys hrem) = true) (hw : wantOf ops σ o = some .yes) (hd : dstOK C.n o.dst = true)
    (ht : Run (C.withX (J (pre ++ [x]))) (.inRegion ops rest :: k) (St.put ⟨σ.t, hrem, σ.nx⟩ o.dst (.tt true)))
    (hf : Run (C.withX (Js (pre ++ [x]))) (.inRegion ops rest :: k) (St.put ⟨σ.t, hrem, σ.nx⟩ o.dst (.tt false))) : Run C (.inRegion ops (i :: rest) :: k) σ := by
  refine Run.callV ho hop hc hg hxs hw fun M fp a w hR => ?_
  have h0 : J pre w fp := by rw [← hX]; exact hR.outer
  let F : Foot := fun b => ∃ id B, lk h id = some B ∧ (M (ap ρ id)).1 = b
  have hlk : ∀ id B, lk h id = some B → lk σ.h (ap ρ id) = some (renB ρ B) := fun id B hB => inHR_lk hh _ _ hB
  have hrl : ∀ id B, lk hrem id = some B → lk σ.h id = some B := fun id B hB => inT_lk hrm _ _ hB
  have hit : ItemAt z h w (conc M u) F := by
    refine ⟨fun i => M (ap ρ i), by rw [hu, conc_ren], fun id B hB => (hR.heap _ _ (hlk _ _ hB)).ren, fun id id' B B' hB hB' e => ?_, fun b => Iff.rfl⟩
    exact apart_spec ha (lk_keys hB) (lk_keys hB') (hR.inj _ _ _ _ (hlk _ _ hB) (hlk _ _ hB') e)
  have hFf : ∀ b, F b → ¬ fp b := by
    rintro b ⟨id, B, hB, rfl⟩
    exact hR.apart _ _ (hlk _ _ hB)
  have hgr : Grown C.S0 C.w0 (fun b => fp b ∨ F b) w := by
    refine ⟨hR.agree, fun b hb => ?_⟩
    rcases hb with hb | ⟨id, B, hB, rfl⟩
    · exact hR.fpok b hb
    · exact ⟨(hR.heap _ _ (hlk _ _ hB)).lt, hR.own _ _ (hlk _ _ hB)⟩
  show CallsV C.P y (concL M [u]) w _
  have e1 : concL M [u] = [conc M u] := by simp [concL]
  rw [e1]
  refine (hy w fp F _ h0 hit hFf hgr).mono fun r w' ⟨fp', hgr', hv⟩ cs => ?_
  have hnF : ∀ id B, lk hrem id = some B → ¬ (fp (M id).1 ∨ F (M id).1) := by
    intro id B hB hf
    rcases hf with hf | ⟨id', B', hB', e⟩
    · exact hR.apart _ _ (hrl _ _ hB) hf
    · exact disj_spec hdj (lk_keys hB') (lk_keys hB) (hR.inj _ _ _ _ (hlk _ _ hB') (hrl _ _ hB) e)
  have hrel : ∀ X : Res, X w' fp' → Rel (C.withX X) M fp' ⟨σ.t, hrem, σ.nx⟩ a w' := by
    intro X hX'
    refine { heap := ?_, inj := fun id id' B B' hB hB' e => hR.inj _ _ _ _ (hrl _ _ hB) (hrl _ _ hB') e, own := fun id B hB => hR.own _ _ (hrl _ _ hB), apart := ?_, agree := ?_, outer := hX', fpok := ?_, size := hR.size, frozen := hR.frozen, tmps := hR.tmps, defers := hR.defers }
    · intro id B hB
      exact (hR.heap _ _ (hrl _ _ hB)).same (hgr'.1.block _ (hR.heap _ _ (hrl _ _ hB)).lt (hnF _ _ hB))
    · intro id B hB hf
      exact hnF _ _ hB ((hgr'.2 _ hf).2 (hR.heap _ _ (hrl _ _ hB)).lt)
    · exact hR.agree.trans hgr'.1 (fun i hi hl => (hgr.2 i hi).2 hl)
    · intro b hb'
      exact ⟨(hgr'.2 b hb').1, fun hl => (hgr.2 b ((hgr'.2 b hb').2 (Nat.lt_of_lt_of_le hl hR.agree.size))).2 hl⟩
  rcases hv with ⟨rfl, hJ⟩ | ⟨rfl, hJ⟩
  · exact ht M fp' _ w' ((hrel _ hJ).put (C := C.withX _) (z := .tt true) (dstOK_lt hd)) cs
  · exact hf M fp' _ w' ((hrel _ hJ).put (C := C.withX _) (z := .tt false) (dstOK_lt hd)) cs

/-- An iterator whose values lie in blocks that go with them. -/
def IterH {α : Type} (P : Program) (f : FuncId) (caps : List Value) (K : Nat → Prop) (w0 : World) (xs : List α) (zf : α → AV) (hf : α → List (Nat × Blk)) : Prop :=
  ∀ (y : Value) (J Js : List α → Res) (w : World) (fp : Foot), (∀ pre, Local (J pre)) → (∀ pre, Local (Js pre)) → (∀ pre x, pre ++ [x] <+: xs → YieldsH P y J Js w fp pre x (zf x) (hf x)) →
    J [] w fp → (∀ b, fp b → b < w.heap.size) → (∀ b, fp b → ¬ K b) → Agree (fun b => ¬ K b) w0 w →
      GivesR P f (y :: caps) w fun _ w' => ∃ fp', Grown fp w fp' w' ∧ (J xs w' fp' ∨ ∃ pre, pre <+: xs ∧ Js pre w' fp')

theorem IterH.of_run {α : Type} {P : Program} {f : FuncId} {fn : Func} {c : Code} {caps : List Value} {K : Nat → Prop} {w0 : World} {xs : List α} {zf : α → AV} {hf' : α → List (Nat × Blk)} (hf : P.funcs[f]? = some fn) (hb : fn.body = some c)
    (hn : (caps.length + 1) ≤ fn.ntmps)
    (h : ∀ (y : Value) (J Js : List α → Res) (w : World) (fp : Foot), (∀ pre, Local (J pre)) → (∀ pre, Local (Js pre)) → (∀ pre x, pre ++ [x] <+: xs → YieldsH P y J Js w fp pre x (zf x) (hf' x)) →
      Agree (fun b => ¬ K b) w0 w → (∀ b, fp b → ¬ K b) → ∀ R : Value → World → Prop, (∀ v w' fp' pre, Grown fp w fp' w' → (pre = xs ∧ J pre w' fp' ∨ pre <+: xs ∧ Js pre w' fp') → R v w') →
        Run (fnC P f fn.ntmps w fp (J []) R) [.code c] ⟨argsT 0 (y :: caps), [], 0⟩) : IterH P f caps K w0 xs zf hf' := by
  intro y J Js w fp hJ hJs hy h0 hfp hK hag
  refine givesX_of_run (S0 := fp) (X := J []) hf hb (by simpa using hn) h0 (fun b hb => ⟨hfp b hb, fun _ => hb⟩) ?_
  refine h y J Js w fp hJ hJs hy hag hK _ fun v w' fp' pre hg hp => ?_
  rcases hp with ⟨rfl, hp⟩ | ⟨h1, h2⟩
  · exact ⟨fp', hg, .inl hp⟩
  · exact ⟨fp', hg, .inr ⟨pre, h1, h2⟩⟩

theorem Run.rangeFnH {α : Type} {C : Ctx} (hL : Local C.X) {k : List Item} {σ : St} {g : Operand} {p : Tmp} {assign body : Code} {f : FuncId} {vs : List Value} {z : AV}
    (hro : C.b.roundOf = none) (hg : σ.ev g = some z) (hz : ∀ M, conc M z = .func (.func f) #[] vs.toArray) (hent : Enters C.P f)
    (lo : Nat) (t : List (Nat × AV)) (htin : inT σ.t t) (hlo : keysLt lo t = true) (hp : Nat.ble lo p = true) (hp2 : Nat.blt p C.n.hi = true)
    {K : Nat → Prop} {xs : List α} {zf : α → AV} {hf : α → List (Nat × Blk)} (hit : IterH C.P f vs K C.w0 xs zf hf) (hK : ∀ b, K b → b < C.w0.heap.size ∧ ¬ C.S0 b)
    (Inv : List α → List (Nat × Blk) → Prop) (Stop : List α → Code → List (Nat × Blk) → Prop) (N m : Nat) (hNm : N ≤ m)
    (htb : tBelow N t = true) (hib : ∀ pre h, Inv pre h → hBelow N h = true) (hfge : ∀ x ∈ xs, hGe N m (hf x) = true) (hzge : ∀ x ∈ xs, (zf x).ge N = true)
    (h0 : List (Nat × Blk)) (hI0 : Inv [] h0) (hin : inT σ.h h0)
    (hround : ∀ D l a0 rc wy fpy pre x h, RoundIn (C.marked D) lo t l wy fpy → pre ++ [x] <+: xs → Inv pre h →
      Run (roundC (C.marked D) lo a0 l rc .ready wy fpy (roundR (C.marked D) t a0 l rc wy fpy (Inv (pre ++ [x])) (Stop (pre ++ [x])))) [.code assign, .beginRound, .code body] ⟨(p, zf x) :: t, hf x ++ h, m⟩)
    (hdone : ∀ D h, Inv xs h → Run (C.marked D) k ⟨t, h, N⟩)
    (hstop : ∀ D pre c h, pre <+: xs → Stop pre c h → Run (C.marked D) (.code c :: k) ⟨t, h, N⟩) :
    Run C (.code (.rangeFunc g #[p] assign body) :: k) σ := by
  intro M fp a w hR cs
  let D := w.heap.size
  let l := w.heap.size + 1
  let rc : Loop := { state := .ready, pending := none, fn := C.b.fn, tmps := a.tmps, params := #[p], assign, body, defers := D }
  let W1 : World := (w.alloc (.deferred (some []))).alloc (.loop rc)
  let y : Value := .func (.yield l) #[] #[]
  have he : (Instr.enterLoop C.b.fn a.tmps #[p] assign body C.b.roundOf).run C.P w = .ok (l, [mark D]) W1 := by rw [hro]; exact run_enterLoop_outer C.b.fn a.tmps #[p] assign body
  have hres : (resolve a.eval (rangeCall g l) 0).run C.P W1 = .ok { target := .fn (.func f) vs.toArray, args := #[y] } W1 := by
    simp [resolve, hR.q.ev hg, hz, Deferred.ofValue, y]
    rfl
  have hinv : (invoke (.fn (.func f) vs.toArray) #[y]).run C.P W1 = .ok (.enter f (y :: vs).toArray) W1 := by
    have : (#[y] ++ vs.toArray : Array Value) = (y :: vs).toArray := by simp
    simp only [invoke, this, hent _ _]
  have s1 := stepR_rangeFunc (P := C.P) (b := C.b) (a := a) (k := k) (cs := cs) (w := w) he hres hinv
  have hws : W1.heap.size = w.heap.size + 2 := by simp only [W1, World.size_alloc]
  have hold : ∀ b, b < w.heap.size → W1.heap[b]? = w.heap[b]? := by
    intro b hb
    rw [heap_alloc_old _ _ b (by rw [World.size_alloc]; omega), heap_alloc_old _ _ b hb]
  have hD : W1.heap[D]? = some (.deferred (some [])) := by
    rw [heap_alloc_old _ _ _ (by rw [World.size_alloc]; omega)]
    exact World.alloc_heap_new _ _
  have hl : W1.heap[l]? = some (.loop rc) := by
    have := World.alloc_heap_new (w.alloc (.deferred (some []))) (.loop rc)
    rw [show (w.alloc (.deferred (some []))).heap.size = l by simp only [World.size_alloc, l]] at this
    exact this
  have hblk : ∀ id B, lk h0 id = some B → lk σ.h id = some B := fun id B hB => inT_lk hin id B hB
  let J : List α → Res := fun pre w fp => ∃ h M fpX, Inv pre h ∧ LoopJ (C.marked D) t a.tmps l rc .ready none h M fpX w fp
  let Js : List α → Res := fun pre w fp => ∃ c h M fpX, Stop pre c h ∧ LoopJ (C.marked D) t a.tmps l rc .done (some c) h M fpX w fp
  have hLm : Local (C.marked D).X := markX_local hL D
  have hJl : ∀ pre, Local (J pre) := fun pre w w' fp ⟨h, M, fpX, h1, h2⟩ _ hs => ⟨h, M, fpX, h1, h2.moved hLm hs⟩
  have hJsl : ∀ pre, Local (Js pre) := fun pre w w' fp ⟨c, h, M, fpX, h1, h2⟩ _ hs => ⟨c, h, M, fpX, h1, h2.moved hLm hs⟩
  let fp1 : Foot := fun b => (fp b ∨ b = D) ∨ b = l ∨ ∃ id B, lk h0 id = some B ∧ (M id).1 = b
  have hfl : ∀ b, fp b → b < w.heap.size := fun b hb => (hR.fpok b hb).1
  have hml : ∀ id B, lk h0 id = some B → (M id).1 < w.heap.size := fun id B hB => (hR.heap _ _ (hblk _ _ hB)).lt
  have hwle : C.w0.heap.size ≤ w.heap.size := hR.agree.size
  have hfp1 : ∀ b, fp1 b → b < W1.heap.size ∧ (b < C.w0.heap.size → C.S0 b) := by
    intro b hb
    rw [hws]
    rcases hb with (hb | rfl) | rfl | ⟨id, B, hB, rfl⟩
    · exact ⟨by have := hfl b hb; omega, (hR.fpok b hb).2⟩
    · exact ⟨by simp only [D]; omega, fun h => by simp only [D] at h; omega⟩
    · exact ⟨by simp only [l]; omega, fun h => by simp only [l] at h; omega⟩
    · exact ⟨by have := hml _ _ hB; omega, hR.own _ _ (hblk _ _ hB)⟩
  have hW1 : Agree C.S0 C.w0 W1 := ⟨hR.agree.os, hR.agree.tape, hR.agree.output, by rw [hws]; omega, fun b hb hs => by rw [hold b (by omega)]; exact hR.agree.block b hb hs⟩
  have hJ0 : J [] W1 fp1 := by
    refine ⟨h0, M, fun b => fp b ∨ b = D, hI0, ?_⟩
    refine { tmps := fun i x hx => hR.tmps i x (inT_lk htin i x hx), heap := ?_, inj := ?_, own := ?_, apart := ?_, outer := ?_, fpok := ?_, rc := hl, lX := ?_, lnew := ?_, foot := fun b => Iff.rfl }
    · exact fun id B hB => (hR.heap _ _ (hblk _ _ hB)).same (hold _ (hml _ _ hB))
    · exact fun id id' B B' hB hB' e => hR.inj _ _ _ _ (hblk _ _ hB) (hblk _ _ hB') e
    · exact fun id B hB => hR.own _ _ (hblk _ _ hB)
    · intro id B hB
      have := hml _ _ hB
      refine ⟨fun hf => ?_, fun e => by simp only [l] at e; omega⟩
      rcases hf with hf | hf
      · exact hR.apart _ _ (hblk _ _ hB) hf
      · simp only [D] at hf; omega
    · exact ⟨fp, hL w W1 fp hR.outer hfl (fun b hb => hold b (hfl b hb)), fun hf => Nat.lt_irrefl _ (hfl _ hf), hD, fun b => Iff.rfl⟩
    · intro b hb
      exact hfp1 b (.inl hb)
    · intro hf
      rcases hf with hf | hf
      · have := hfl _ hf; simp only [l] at this; omega
      · simp only [l, D] at hf; omega
    · show C.w0.heap.size ≤ l
      simp only [l]; omega
  have hys : ∀ pre x, pre ++ [x] <+: xs → YieldsH C.P y J Js W1 fp1 pre x (zf x) (hf x) := by
    intro pre x hpx wy fpy F v hJy hitem hFf hgr
    obtain ⟨h, M', fpX, hinvp, hJ⟩ := hJy
    obtain ⟨Mi, hv, hbi, hji, hFi⟩ := hitem
    have hx := hpx.subset (show x ∈ pre ++ [x] by simp)
    have hge := hfge x hx
    have hzg := hzge x hx
    have hbel := hib _ _ hinvp
    have hag : Agree C.S0 C.w0 wy := hW1.trans hgr.1 (fun i hi hl => (hfp1 i hi).2 hl)
    let fpz : Foot := fun b => fpy b ∨ F b
    have hfy : ∀ b, fpz b → b < C.w0.heap.size → C.S0 b := fun b hb hlt => (hfp1 b ((hgr.2 b hb).2 (by have := hW1.size; omega))).2 hlt
    let M'' : Loc := fun i => if i < N then M' i else Mi i
    have hlow : ∀ i, i < N → M'' i = M' i := fun i hi => by simp only [M'', if_pos hi]
    have hhi : ∀ i, N ≤ i → M'' i = Mi i := fun i hi => by simp only [M'', if_neg (Nat.not_lt.2 hi)]
    have key : ∀ id B, lk (hf x ++ h) id = some B → (N ≤ id ∧ lk (hf x) id = some B) ∨ (id < N ∧ lk h id = some B) := by
      intro id B hB
      rw [lk_append] at hB
      split at hB
      · rename_i u hu
        cases hB
        exact .inl ⟨(hGe_lk hge hu).1, hu⟩
      · exact .inr ⟨(lkh_below hbel hB).1, hB⟩
    have hinF : ∀ id B, lk (hf x) id = some B → F (Mi id).1 := fun id B hB => (hFi _).2 ⟨id, B, hB, rfl⟩
    have hinY : ∀ id B, lk h id = some B → fpy (M' id).1 := fun id B hB => (hJ.foot _).2 (.inr (.inr ⟨id, B, hB, rfl⟩))
    have hrun := run_yield (P := C.P) (args := #[v]) hJ.rc (by simp [rc])
    refine ⟨{ target := .fn (.yield l) #[], args := #[v] }, _, by simp [Deferred.ofValue, y], by simp only [invoke]; exact hrun, ?_⟩
    intro c cs'
    have hpl : p < a.tmps.size := by rw [hR.size]; simpa using hp2
    let a' : Act := { tmps := a.tmps.setIfInBounds p v, defers := [] }
    have htm : (#[p].zip #[v]).foldl (fun tmps (q : Nat × Value) => tmps.setIfInBounds q.1 q.2) a.tmps = a.tmps.setIfInBounds p v := by simp
    have hI : RoundIn (C.marked D) lo t l wy fpz := ⟨hLm, .inl ((hJ.foot l).2 (.inr (.inl rfl))), hag, hfy, hJ.lnew, hlo⟩
    have hrel : Rel (roundC (C.marked D) lo a.tmps l rc .ready wy fpz (roundR (C.marked D) t a.tmps l rc wy fpz (Inv (pre ++ [x])) (Stop (pre ++ [x])))) M'' (fun b => fpX b ∨ b = l) ⟨(p, zf x) :: t, hf x ++ h, m⟩ a' wy := by
      refine { heap := ?_, inj := ?_, own := ?_, apart := ?_, agree := Agree.refl _ _, outer := ⟨fpX, hJ.outer, hJ.lX, hJ.rc, fun b => Iff.rfl⟩, fpok := ?_, size := ?_, frozen := ?_, tmps := ?_, defers := rfl }
      · intro id B hB
        rcases key id B hB with ⟨h1, h2⟩ | ⟨h1, h2⟩
        · exact BlkAt.congrG hhi h1 (hGe_lk hge h2).2.2.1 (hbi id B h2)
        · exact BlkAt.congr hlow h1 (lkh_below hbel h2).2 rfl (hJ.heap id B h2)
      · intro id id' B B' hB hB' e
        rcases key id B hB with ⟨h1, h2⟩ | ⟨h1, h2⟩ <;> rcases key id' B' hB' with ⟨h3, h4⟩ | ⟨h3, h4⟩
        · rw [hhi id h1, hhi id' h3] at e; exact hji _ _ _ _ h2 h4 e
        · rw [hhi id h1, hlow id' h3] at e; exact (hFf _ (hinF _ _ h2) (e ▸ hinY _ _ h4)).elim
        · rw [hlow id h1, hhi id' h3] at e; exact (hFf _ (hinF _ _ h4) (e ▸ hinY _ _ h2)).elim
        · rw [hlow id h1, hlow id' h3] at e; exact hJ.inj _ _ _ _ h2 h4 e
      · intro id B hB _
        rcases key id B hB with ⟨h1, h2⟩ | ⟨h1, h2⟩
        · rw [hhi id h1]; exact .inr (hinF _ _ h2)
        · rw [hlow id h1]; exact .inl (hinY _ _ h2)
      · intro id B hB hf'
        rcases key id B hB with ⟨h1, h2⟩ | ⟨h1, h2⟩
        · rw [hhi id h1] at hf'
          refine hFf _ (hinF _ _ h2) ((hJ.foot _).2 ?_)
          exact hf'.imp (fun h => h) .inl
        · rw [hlow id h1] at hf'
          exact hf'.elim (hJ.apart _ _ h2).1 (hJ.apart _ _ h2).2
      · intro b hb
        have hb' : fpy b := (hJ.foot b).2 (hb.imp id .inl)
        exact ⟨(hgr.2 b (.inl hb')).1, fun _ => .inl hb'⟩
      · show a'.tmps.size = C.n.hi
        simp only [a', Array.size_setIfInBounds]; exact hR.size
      · intro i hi
        show (a.tmps.setIfInBounds p v)[i]? = a.tmps[i]?
        have hi' : i < lo := hi
        have : p ≠ i := fun e => Nat.lt_irrefl i (Nat.lt_of_lt_of_le hi' (e ▸ Nat.le_of_ble_eq_true hp))
        rw [Array.getElem?_setIfInBounds, if_neg this]
      · intro i u hu
        simp only [lk] at hu
        show (a.tmps.setIfInBounds p v)[i]? = _
        split at hu
        · rename_i he
          have e := Nat.eq_of_beq_eq_true he
          subst e; cases hu
          rw [Array.getElem?_setIfInBounds, if_pos rfl, if_pos hpl, conc_congrG hhi _ hzg, hv]
        · rename_i he
          have hne : p ≠ i := fun e => by subst e; simp at he
          rw [Array.getElem?_setIfInBounds, if_neg hne, hJ.tmps i u hu, conc_congr hlow u (lk_below htb hu)]
    obtain ⟨m', s, zz⟩ := hround D l a.tmps rc wy fpz pre x h hI hpx hinvp M'' _ a' wy hrel (c :: cs')
    obtain ⟨r, w', rfl, fp', hg', hv'⟩ := zz c cs' rfl
    refine ⟨r, w', ⟨fp', hg', ?_⟩, ?_⟩
    · rcases hv' with ⟨hv', hh⟩ | ⟨hv', hh⟩
      · obtain ⟨h', M', fpX', e1, e2⟩ := hh; exact .inl ⟨hv', h', M', fpX', e1, e2⟩
      · obtain ⟨c', h', M', fpX', e1, e2⟩ := hh; exact .inr ⟨hv', c', h', M', fpX', e1, e2⟩
    · have hfr : Frame.round l C.b.fn ((#[p].zip #[v]).foldl (fun tmps (q : Nat × Value) => tmps.setIfInBounds q.1 q.2) a.tmps) assign body .normal =
          (roundC (C.marked D) lo a.tmps l rc .ready wy fpz (roundR (C.marked D) t a.tmps l rc wy fpz (Inv (pre ++ [x])) (Stop (pre ++ [x])))).b.atR a' [.code assign, .beginRound, .code body] := by
        rw [htm]; simp [Frame.round, Frame.atR, roundC, Ctx.marked, a']
      exact hfr ▸ s
  have hcall := hit y J Js W1 fp1 hJl hJsl hys hJ0 (fun b hb => (hfp1 b hb).1) (fun b hb hk => (hK b hk).2 ((hfp1 b hb).2 (hK b hk).1))
    ⟨hW1.os, hW1.tape, hW1.output, hW1.size, fun b hb hk => hW1.block b hb (fun hs => by
      have : K b := Classical.byContradiction hk
      exact (hK b this).2 hs)⟩
  obtain ⟨e, w', fr, ⟨v, rfl, fp', hgr, hend⟩, hsteps, _, hleave⟩ := hcall (C.b.atR { a with defers := [mark D] ++ a.defers } (.inRangeFunc l :: k) :: cs)
  have s2 := step_leave_returned (c := C.b.atR { a with defers := [mark D] ++ a.defers } (.inRangeFunc l :: k)) (cs := cs) hleave
  rw [finish_atR_inRangeFunc] at s2
  have hag : Agree C.S0 C.w0 w' := hW1.trans hgr.1 (fun i hi hl => (hfp1 i hi).2 hl)
  have key : ∀ (st : LoopState) (pd : Option Code) (h : List (Nat × Blk)) (M' : Loc) (fpX : Foot), st ≠ .busy → LoopJ (C.marked D) t a.tmps l rc st pd h M' fpX w' fp' →
      Run (C.marked D) ((pd.map Item.code).toList ++ k) ⟨t, h, N⟩ → ∃ m, Steps C.P (lone (C.b.atR a (.code (.rangeFunc g #[p] assign body) :: k)) cs w) m ∧ C.Z cs m := by
    intro st pd h M' fpX hst hJ hr
    obtain ⟨k1, k2, k3⟩ := hJ.record hLm (o := .loop { rc with state := .exhausted, pending := pd })
    have hrel : Rel (C.marked D) M' fpX ⟨t, h, N⟩ { a with defers := [mark D] ++ a.defers } (w'.putObj l (.loop { rc with state := .exhausted, pending := pd })) := by
      refine { heap := k1, inj := hJ.inj, own := hJ.own, apart := fun id B hB => (hJ.apart _ _ hB).1, agree := ?_, outer := k2, fpok := k3, size := hR.size, frozen := hR.frozen, tmps := hJ.tmps, defers := ?_ }
      · refine agree_putObj hag (fun h => ?_)
        have : C.w0.heap.size ≤ l := hJ.lnew
        exact absurd (show l < C.w0.heap.size from h) (by omega)
      · show [mark D] ++ a.defers = mark D :: C.ds
        rw [hR.defers]; rfl
    obtain ⟨m, s, zz⟩ := hr M' fpX _ _ hrel cs
    have s3 := stepR_endRangeFunc (P := C.P) (b := C.b) (a := { a with defers := [mark D] ++ a.defers }) (k := k) (cs := cs) (run_endLoop (P := C.P) hJ.rc hst)
    exact ⟨m, .head s1 (Steps.trans hsteps (.head s2 (.head s3 s))), zz⟩
  rcases hend with ⟨h, M', fpX, hI, hJ⟩ | ⟨pre, hpre, c, h, M', fpX, hS, hJ⟩
  · exact key .ready none h M' fpX (by simp) hJ (hdone D h hI)
  · exact key .done (some c) h M' fpX (by simp) hJ (hstop D pre c h hpre hS)
end Go.AM

/-
  The abstract machine, twenty-fourth part: functions that work on blocks which are handed to them; calls by what follows them. Own work; over any program.
-/
namespace Go.AM

def argsA : Nat → List AV → List (Nat × AV)
  | _, [] => []
  | i, x :: r => (i, x) :: argsA (i + 1) r

theorem argsA_lk : ∀ {l : List AV} {i j : Nat} {x : AV}, lk (argsA i l) j = some x → i ≤ j ∧ l[j - i]? = some x
  | [], i, j, x, h => by cases h
  | y :: r, i, j, x, h => by
    simp only [argsA, lk] at h
    split at h
    · rename_i he
      have e := Nat.eq_of_beq_eq_true he
      subst e; cases h
      exact ⟨Nat.le_refl _, by simp⟩
    · rename_i he
      obtain ⟨h1, h2⟩ := argsA_lk h
      refine ⟨by omega, ?_⟩
      rw [show j - i = (j - (i + 1)) + 1 by omega]; simpa using h2

theorem concL_get {M : Loc} : ∀ {l : List AV} {j : Nat} {x : AV}, l[j]? = some x → (concL M l)[j]? = some (conc M x)
  | y :: r, 0, x, h => by simp at h; subst h; simp [concL]
  | y :: r, j + 1, x, h => by simp at h; simp only [concL, List.getElem?_cons_succ]; exact concL_get h

theorem concL_length {M : Loc} : ∀ (l : List AV), (concL M l).length = l.length
  | [] => by simp [concL]
  | y :: r => by simp [concL, concL_length r]

/-- What a footprint and some blocks take up. -/
def footH (M : Loc) (fp : Foot) (h : List (Nat × Blk)) : Foot := fun b => fp b ∨ ∃ id B, lk h id = some B ∧ (M id).1 = b

/-- A call to which blocks are handed. -/
theorem givesO_of_run {P : Program} {f : FuncId} {fn : Func} {c : Code} {args : List AV} {h : List (Nat × Blk)} {nx : Nat} {M : Loc} {w : World} {X : Res} {fp : Foot} {R : Value → World → Prop} (hf : P.funcs[f]? = some fn) (hb : fn.body = some c)
    (hn : args.length ≤ fn.ntmps) (hX : X w fp) (hfp : ∀ b, fp b → b < w.heap.size)
    (hh : ∀ id B, lk h id = some B → BlkAt M w id B) (hi : ∀ id id' B B', lk h id = some B → lk h id' = some B' → (M id).1 = (M id').1 → id = id') (ha : ∀ id B, lk h id = some B → ¬ fp (M id).1)
    (hr : Run (fnC P f fn.ntmps w (footH M fp h) X R) [.code c] ⟨argsA 0 args, h, nx⟩) : GivesR P f (concL M args) w R := by
  intro cs
  let a : Act := { tmps := (concL M args).toArray ++ Array.replicate (fn.ntmps - (concL M args).length) undef, defers := [] }
  let b : Frame := { (default : Frame) with fn := f, kind := .normal, roundOf := none }
  have henter : Frame.enter P f (concL M args).toArray .normal = b.atR a [.code c] := by
    simp [Frame.enter, Frame.atR, hf, hb, b, a]
  have hR : Rel (fnC P f fn.ntmps w (footH M fp h) X R) M fp ⟨argsA 0 args, h, nx⟩ a w := by
    refine { heap := hh, inj := hi, own := fun id B hB _ => .inr ⟨id, B, hB, rfl⟩, apart := ha, agree := Agree.refl _ _, outer := hX,
             fpok := fun b hb => ⟨hfp b hb, fun _ => .inl hb⟩, size := by simp [a, fnC, concL_length]; omega, frozen := fun i hi => absurd hi (Nat.not_lt_zero _), tmps := ?_, defers := rfl }
    intro i x hx
    obtain ⟨_, h2⟩ := argsA_lk hx
    simp only [Nat.sub_zero] at h2
    have h3 := concL_get (M := M) h2
    have hlt := (List.getElem?_eq_some_iff.1 h3).1
    simp only [a]
    rw [Array.getElem?_append_left (by simpa using hlt)]
    simpa using h3
  obtain ⟨m, s, v, w', fr, rfl, h1, h2, h3⟩ := hr M fp a w hR cs
  rw [henter]
  exact ⟨.returned v, w', fr, ⟨v, rfl, h3⟩, s, h1, h2⟩

/-- A call, by what follows it. -/
theorem Run.callK {C : Ctx} {k : List Item} {σ : St} {ops : Array Oper} {i : Nat} {rest : List Nat} {o : Oper} {c : Call} {g : Operand} {f : FuncId} {caps xs : List AV}
    (ho : ops[i]? = some o) (hop : o.op = .call c) (hc : c.callee = .value g) (hg : σ.ev g = some (.fn f caps)) (hxs : evs σ c.args.toList = some xs) (hw : wantOf ops σ o = some .yes) (hent : Enters C.P f)
    (hd : dstOK C.n o.dst = true)
    (hcon : ∀ M fp a w, Rel C M fp σ a w → GivesR C.P f (concL M (xs ++ caps)) w (fun v w' => ∃ X' M' fp' σ' z, conc M' z = v ∧ Rel (C.withX X') M' fp' σ' a w' ∧ Run (C.withX X') (.inRegion ops rest :: k) (σ'.put o.dst z))) :
    Run C (.inRegion ops (i :: rest) :: k) σ := by
  intro M fp a w hR cs
  have hnd : ∀ c, o.op ≠ .defer c := fun c e => by rw [hop] at e; cases e
  have h2 : c.args.map a.eval = (concL M xs).toArray := by apply Array.ext'; simpa using evs_conc hR.q hxs
  have hr : (execOp a.eval o).run C.P w = .ok (.enter f (concL M (xs ++ caps)).toArray) w := by
    simp only [execOp, hop, resolve, hc, h2, hR.q.ev hg, conc, Deferred.ofValue]
    simp [invoke, hent _ _, concL_append]
  have s1 := step_call (b := C.b) (k := k) (cs := cs) (rest := rest) ho (wantOf_yes hR.q hw) hnd hr
  obtain ⟨e, w', fr, ⟨v, rfl, X', M', fp', σ', z, hz, hR', hrun⟩, hsteps, _, hleave⟩ := hcon M fp a w hR (C.b.atR a (.inRegion ops (i :: rest) :: k) :: cs)
  obtain ⟨m, s, e⟩ := hrun M' fp' _ w' (hR'.put (C := C.withX X') (z := z) (dstOK_lt hd)) cs
  have hfin : (C.b.atR a (.inRegion ops (i :: rest) :: k)).finish v = C.b.atR (a.put o.dst v) (.inRegion ops rest :: k) := by rw [Frame.finish_atR, ho]; rfl
  refine ⟨m, .head s1 (Steps.trans hsteps (.head (step_leave_returned hleave) ?_)), e⟩
  rw [hfin, ← hz]; exact s

theorem YieldsH.rebase {α : Type} {P : Program} {y : Value} {J Js : List α → Res} {w1 w2 : World} {fp1 fp2 : Foot} {pre : List α} {x : α} {z : AV} {h : List (Nat × Blk)} (hy : YieldsH P y J Js w1 fp1 pre x z h) (hg : Grown fp1 w1 fp2 w2) :
    YieldsH P y J Js w2 fp2 pre x z h := fun w fp F v h1 h2 h3 h4 => hy w fp F v h1 h2 h3 (hg.trans h4)

/-- What is handed over, numbered otherwise. -/
theorem Handed.to {z z' : AV} {h h' : List (Nat × Blk)} {w w' : World} {v : Value} (ρ : List (Nat × Nat)) (H : Handed z h w v w') (hz : z = ren ρ z') (hh : inHR ρ h h') (ha : AM.apart ρ (keys h') = true) : Handed z' h' w v w' := by
  obtain ⟨hag, M, hv, hb, hi⟩ := H
  refine ⟨hag, fun i => M (ap ρ i), by rw [← conc_ren, ← hz, hv], fun id B hB => ?_, fun id id' B B' hB hB' e => ?_⟩
  · have := hb _ _ (inHR_lk hh _ _ hB)
    exact ⟨this.1.ren, this.2⟩
  · exact apart_spec ha (lk_keys hB) (lk_keys hB') (hi _ _ _ _ (inHR_lk hh _ _ hB) (inHR_lk hh _ _ hB') e)
theorem HandsZ.to {P : Program} {f : FuncId} {args : List Value} {w : World} {z z' : AV} {h h' : List (Nat × Blk)} (ρ : List (Nat × Nat)) (H : HandsZ P f args w z h) (hz : z = ren ρ z') (hh : inHR ρ h h') (ha : AM.apart ρ (keys h') = true) : HandsZ P f args w z' h' :=
  Calls.mono' H fun _ _ ⟨v, h1, h2⟩ => ⟨v, h1, h2.to ρ hz hh ha⟩

/-- The return of whatever, by what the state says. -/
theorem Run.retS {P : Program} {T : Tab} (hT : tabOK P T) {f : FuncId} {fn : Func} {n : Nat} {w0 : World} {S0 : Nat → Prop} {X : Res} {R : Value → World → Prop} {σ : St} {k : List Item} {p : Prop} {l : List AV}
    (hf : P.funcs[f]? = some fn) (h : resOf T w0 S0 σ fn.results.toList = some (p, l)) (hp : p)
    (hR : ∀ M fp a w, Rel (fnC P f n w0 S0 X R) M fp σ a w → R (conc M (resAV l)) w) : Run (fnC P f n w0 S0 X R) (.code .ret :: k) σ := Run.ret hT hf h hp hR
/-! ### Parameters that stand still -/

/-- A function's surroundings in which the first temporaries are never written. -/
abbrev fnL (P : Program) (f : FuncId) (lo n : Nat) (t0 : Array Value) (w : World) (S0 : Nat → Prop) (X : Res) (R : Value → World → Prop) : Ctx := { fnC P f n w S0 X R with n := ⟨lo, n⟩, t0 := t0 }

theorem givesL_of_run {P : Program} {f : FuncId} {fn : Func} {c : Code} {args : List AV} {h : List (Nat × Blk)} {nx : Nat} {M : Loc} {w : World} {X : Res} {fp : Foot} {R : Value → World → Prop} (hf : P.funcs[f]? = some fn) (hb : fn.body = some c)
    (hn : args.length ≤ fn.ntmps) (hX : X w fp) (hfp : ∀ b, fp b → b < w.heap.size)
    (hh : ∀ id B, lk h id = some B → BlkAt M w id B) (hi : ∀ id id' B B', lk h id = some B → lk h id' = some B' → (M id).1 = (M id').1 → id = id') (ha : ∀ id B, lk h id = some B → ¬ fp (M id).1)
    (hr : Run (fnL P f args.length fn.ntmps (concL M args).toArray w (footH M fp h) X R) [.code c] ⟨argsA 0 args, h, nx⟩) : GivesR P f (concL M args) w R := by
  intro cs
  let a : Act := { tmps := (concL M args).toArray ++ Array.replicate (fn.ntmps - (concL M args).length) undef, defers := [] }
  let b : Frame := { (default : Frame) with fn := f, kind := .normal, roundOf := none }
  have henter : Frame.enter P f (concL M args).toArray .normal = b.atR a [.code c] := by
    simp [Frame.enter, Frame.atR, hf, hb, b, a]
  have hR : Rel (fnL P f args.length fn.ntmps (concL M args).toArray w (footH M fp h) X R) M fp ⟨argsA 0 args, h, nx⟩ a w := by
    refine { heap := hh, inj := hi, own := fun id B hB _ => .inr ⟨id, B, hB, rfl⟩, apart := ha, agree := Agree.refl _ _, outer := hX,
             fpok := fun b hb => ⟨hfp b hb, fun _ => .inl hb⟩, size := by simp [a, concL_length]; omega, frozen := fun i hi => ?_, tmps := ?_, defers := rfl }
    · have hi' : i < args.length := hi
      simp only [a]
      rw [Array.getElem?_append_left (by simpa [concL_length] using hi')]
    · intro i x hx
      obtain ⟨_, h2⟩ := argsA_lk hx
      simp only [Nat.sub_zero] at h2
      have h3 := concL_get (M := M) h2
      have hlt := (List.getElem?_eq_some_iff.1 h3).1
      simp only [a]
      rw [Array.getElem?_append_left (by simpa using hlt)]
      simpa using h3
  obtain ⟨m, s, v, w', fr, rfl, h1, h2, h3⟩ := hr M fp a w hR cs
  rw [henter]
  exact ⟨.returned v, w', fr, ⟨v, rfl, h3⟩, s, h1, h2⟩

theorem Run.retF {P : Program} {T : Tab} (hT : tabOK P T) {f : FuncId} {fn : Func} {lo n : Nat} {t0 : Array Value} {w0 : World} {S0 : Nat → Prop} {X : Res} {R : Value → World → Prop} {σ : St} {k : List Item} {p : Prop} {l : List AV}
    (hf : P.funcs[f]? = some fn) (h : resOf T w0 S0 σ fn.results.toList = some (p, l)) (hp : p)
    (hR : ∀ M fp a w, Rel (fnL P f lo n t0 w0 S0 X R) M fp σ a w → R (conc M (resAV l)) w) : Run (fnL P f lo n t0 w0 S0 X R) (.code .ret :: k) σ := by
  intro M fp a w hr cs
  refine ⟨_, .one (stepR_ret rfl), _, w, _, rfl, rfl, ⟨rfl, hr.defers, rfl, fn, hf, ?_⟩, hR M fp a w hr⟩
  exact results_run hT hr (fn := fn) h hp

/-- Where a parameter that stands still points. -/
theorem Rel.still {C : Ctx} {M : Loc} {fp : Nat → Prop} {σ : St} {a : Act} {w : World} (hR : Rel C M fp σ a w) {i id off b o : Nat} (hi : i < C.n.lo) (h0 : C.t0[i]? = some (.pointer (some ⟨b, o, none⟩))) (ht : lk σ.t i = some (.ptr id off)) : (M id).1 = b := by
  have h1 := hR.frozen i hi
  rw [hR.tmps i _ ht, h0] at h1
  simp only [conc, Option.some.injEq, Value.pointer.injEq, Addr.mk.injEq] at h1
  exact h1.1
end Go.AM

/-
  The abstract machine, thirty-fourth part: function values that turn the outer part, called in rounds; a run begun anew where some blocks are given up. Own work; over any program.
-/
namespace Go.AM
open Go.RowKit

/-- A later base of the same run. -/
structure Base (S : Foot) (w : World) (S1 : Foot) (w1 : World) : Prop where
  agree : Agree S w w1
  old : ∀ b, S1 b → b < w.heap.size → S b

theorem Base.refl (S : Foot) (w : World) : Base S w S w := ⟨Agree.refl _ _, fun _ h _ => h⟩

theorem Base.trans {S S1 S2 : Foot} {w w1 w2 : World} (h : Base S w S1 w1) (k : Base S1 w1 S2 w2) : Base S w S2 w2 :=
  ⟨h.agree.trans k.agree (fun i hi hl => h.old i hi hl), fun b hb hl => h.old b (k.old b hb (Nat.lt_of_lt_of_le hl h.agree.size)) hl⟩

theorem Base.grown {S S1 fp' : Foot} {w w1 w' : World} (h : Base S w S1 w1) (k : Grown S1 w1 fp' w') : Grown S w fp' w' :=
  ⟨h.agree.trans k.1 (fun i hi hl => h.old i hi hl), fun b hb => ⟨(k.2 b hb).1, fun hl => h.old b ((k.2 b hb).2 (Nat.lt_of_lt_of_le hl h.agree.size)) hl⟩⟩

theorem Base.call {S S1 S3 : Foot} {w w1 w2 w3 : World} (h : Base S w S1 w1) (k : Agree S1 w1 w2) (l : Agree (fun _ => False) w2 w3) (hs : Since w1 S1 w2 S3) : Base S w S3 w3 :=
  ⟨(h.agree.trans k (fun i hi hl => h.old i hi hl)).trans l (fun _ f _ => f.elim), fun b hb hl => h.old b (Classical.byContradiction fun hn => hs.old b (Nat.lt_of_lt_of_le hl h.agree.size) hn hb) hl⟩

theorem RoundIn.base {C : Ctx} {lo : Nat} {t : List (Nat × AV)} {l : Nat} {wy : World} {fpy : Foot} (h : RoundIn C lo t l wy fpy) : Base C.S0 C.w0 fpy wy := ⟨h.w0, h.fy⟩

theorem Based.base {w0 w1 w2 : World} {S S2 : Foot} (h : Based w0 w1 S) (k : Base S w1 S2 w2) : Based w0 w2 S2 :=
  ⟨h.later k.agree, fun b hb => by
    rcases Nat.lt_or_ge b w1.heap.size with hl | hl
    · exact h.new b (k.old b hb hl)
    · exact Nat.le_trans h.agree.size hl⟩

/-- What a call of a function value does to the outer part. -/
def Does (P : Program) (y : Value) (x : List Value) (X : Res) (Q : Value → Res) (S : Foot) (w0 : World) : Prop :=
  ∀ w fp, X w fp → Grown S w0 fp w → CallsV P y x w fun v w' => ∃ fp', Grown fp w fp' w' ∧ Q v w' fp'

section
variable {P : Program} {y : Value} {x : List Value} {X : Res} {Q : Value → Res} {S S1 : Foot} {w0 w1 : World}

theorem Does.at (h : Does P y x X Q S w0) (hb : Base S w0 S1 w1) : Does P y x X Q S1 w1 := fun w fp hX hg => h w fp hX (hb.grown hg)

theorem Does.mark (h : Does P y x X Q S w0) (D : Nat) : Does P y x (markX X D) (fun v => markX (Q v) D) S w0 := by
  rintro w fp ⟨fpX, h1, h2, h3, h4⟩ hg
  refine (h w fpX h1 ⟨hg.1, fun b hb => hg.2 b ((h4 b).2 (.inl hb))⟩).mono fun v w' ⟨fp', k, q⟩ => ?_
  have hD : D < w.heap.size := (Array.getElem?_eq_some_iff.1 h3).1
  have hD' : ¬ fp' D := fun hf => h2 ((k.2 D hf).2 hD)
  refine ⟨fun b => fp' b ∨ b = D, ⟨⟨k.1.os, k.1.tape, k.1.output, k.1.size, fun b hb hs => k.1.block b hb (fun hf => hs ((h4 b).2 (.inl hf)))⟩, ?_⟩, fp', q, hD', ?_, fun b => Iff.rfl⟩
  · rintro b (hb | rfl)
    · exact ⟨(k.2 b hb).1, fun hl => (h4 b).2 (.inl ((k.2 b hb).2 hl))⟩
    · exact ⟨Nat.lt_of_lt_of_le hD k.1.size, fun _ => (h4 b).2 (.inr rfl)⟩
  · rw [k.1.block D hD h2]; exact h3

theorem Does.round (h : Does P y x X Q S w0) (l : Nat) (rc : Loop) (st : LoopState) : Does P y x (roundX X l rc st) (fun v => roundX (Q v) l rc st) S w0 := by
  rintro w fp ⟨fpX, h1, h2, h3, h4⟩ hg
  refine (h w fpX h1 ⟨hg.1, fun b hb => hg.2 b ((h4 b).2 (.inl hb))⟩).mono fun v w' ⟨fp', k, q⟩ => ?_
  have hD : l < w.heap.size := (Array.getElem?_eq_some_iff.1 h3).1
  have hD' : ¬ fp' l := fun hf => h2 ((k.2 l hf).2 hD)
  refine ⟨fun b => fp' b ∨ b = l, ⟨⟨k.1.os, k.1.tape, k.1.output, k.1.size, fun b hb hs => k.1.block b hb (fun hf => hs ((h4 b).2 (.inl hf)))⟩, ?_⟩, fp', q, hD', ?_, fun b => Iff.rfl⟩
  · rintro b (hb | rfl)
    · exact ⟨(k.2 b hb).1, fun hl => (h4 b).2 (.inl ((k.2 b hb).2 hl))⟩
    · exact ⟨Nat.lt_of_lt_of_le hD k.1.size, fun _ => (h4 b).2 (.inr rfl)⟩
  · rw [k.1.block l hD h2]; exact h3

def marksX (X : Res) : List Nat → Res
  | [] => X
  | D :: Ds => markX (marksX X Ds) D

theorem marksX_local (hX : Local X) : ∀ Ds : List Nat, Local (marksX X Ds)
  | [] => hX
  | D :: Ds => markX_local (marksX_local hX Ds) D

theorem Does.marks (h : Does P y x X Q S w0) : ∀ Ds : List Nat, Does P y x (marksX X Ds) (fun v => marksX (Q v) Ds) S w0
  | [] => h
  | D :: Ds => (Does.marks h Ds).mark D

theorem marksX_mono {X X' : Res} (h : ∀ w fp, X w fp → X' w fp) : ∀ (Ds : List Nat) w fp, marksX X Ds w fp → marksX X' Ds w fp
  | [], w, fp, hX => h w fp hX
  | D :: Ds, w, fp, ⟨fpX, h1, h2⟩ => ⟨fpX, marksX_mono h Ds w fpX h1, h2⟩

theorem marksX_ex {X : Res} : ∀ (Ds : List Nat) w fp, marksX X Ds w fp → ∃ fp', X w fp'
  | [], w, fp, hX => ⟨fp, hX⟩
  | D :: Ds, w, _, ⟨fpX, h1, _⟩ => marksX_ex Ds w fpX h1
end

/-- A function's surroundings behind some ranges, opened. -/
abbrev opM (P : Program) (f : FuncId) (lo n : Nat) (t0 : Array Value) (w : World) (S0 : Foot) (X : Res) (R : Value → World → Prop) (Ds : List Nat) : Ctx :=
  { fnC P f n w S0 (marksX X Ds) R with ds := Ds.map mark, n := ⟨lo, n⟩, t0 := t0 }

theorem opM_eq {P : Program} {f : FuncId} {n : Nat} {w : World} {S0 : Foot} {X : Res} {R : Value → World → Prop} : ∀ Ds : List Nat, opM P f 0 n #[] w S0 X R Ds = fnM P f n w S0 X R Ds
  | [] => rfl
  | D :: Ds => by
    show (opM P f 0 n #[] w S0 X R Ds).marked D = (fnM P f n w S0 X R Ds).marked D
    rw [opM_eq Ds]

theorem Run.thaw (C : Ctx) {lo hi lo' : Nat} {t0 t0' : Array Value} {todo : List Item} {σ : St} (hlo : lo' = 0) (h : Run { C with n := ⟨lo', hi⟩, t0 := t0' } todo σ) : Run { C with n := ⟨lo, hi⟩, t0 := t0 } todo σ := fun M fp a w hR cs =>
  h M fp a w { heap := hR.heap, inj := hR.inj, own := hR.own, apart := hR.apart, agree := hR.agree, outer := hR.outer, fpok := hR.fpok, size := hR.size, frozen := fun i hi => absurd (show i < lo' from hi) (by omega), tmps := hR.tmps, defers := hR.defers } cs

/-- A call of a function value that turns the outer part. -/
theorem Run.ask {C : Ctx} {k : List Item} {σ : St} {ops : Array Oper} {i : Nat} {rest : List Nat} {o : Oper} {c : Call} {g : Operand} {y : Value} {xs : List AV} {x : List Value} {Q : Value → Res}
    (hy : Does C.P y x C.X Q C.S0 C.w0)
    (ho : ops[i]? = some o) (hop : o.op = .call c) (hc : c.callee = .value g) (hg : σ.ev g = some (.v y)) (hxs : evs σ c.args.toList = some xs) (hx : toVs xs = some x) (hw : wantOf ops σ o = some .yes) (hd : dstOK C.n o.dst = true)
    (h : ∀ v w fp, Q v w fp → ∃ z X', (∀ M, conc M z = v) ∧ X' w fp ∧ Run (C.withX X') (.inRegion ops rest :: k) (σ.put o.dst z)) : Run C (.inRegion ops (i :: rest) :: k) σ := by
  refine Run.callV ho hop hc hg hxs hw fun M fp a w hR => ?_
  rw [toVs_conc hx]
  refine (hy w fp hR.outer ⟨hR.agree, hR.fpok⟩).mono fun v w' ⟨fp', hgr, hv⟩ cs => ?_
  obtain ⟨z, X', hz, hX', hr⟩ := h v w' fp' hv
  have := hr M fp' _ w' ((hR.grown hgr hX').put (C := C.withX X') (z := z) (dstOK_lt hd)) cs
  rwa [hz] at this

/-- The same in a round. -/
theorem Run.askRound {P : Program} {f : FuncId} {lo lo1 n l : Nat} {t0 a0 : Array Value} {w0 wy : World} {S0 fpy : Foot} {X : Res} {R Rr : Value → World → Prop} {Ds : List Nat} {rc : Loop} {k : List Item} {σ : St} {ops : Array Oper} {i : Nat} {rest : List Nat} {o : Oper} {c : Call} {g : Operand} {y : Value} {xs : List AV} {x : List Value} {Q : Value → Res}
    (hy : Does P y x X Q fpy wy)
    (ho : ops[i]? = some o) (hop : o.op = .call c) (hc : c.callee = .value g) (hg : σ.ev g = some (.v y)) (hxs : evs σ c.args.toList = some xs) (hx : toVs xs = some x) (hw : wantOf ops σ o = some .yes) (hd : dstOK ⟨lo1, n⟩ o.dst = true)
    (h : ∀ v w fp, Q v w fp → ∃ z X', (∀ M, conc M z = v) ∧ (∀ w fp, Q v w fp → X' w fp) ∧ Run (roundC (opM P f lo n t0 w0 S0 X' R Ds) lo1 a0 l rc .busy wy fpy Rr) (.inRegion ops rest :: k) (σ.put o.dst z)) :
    Run (roundC (opM P f lo n t0 w0 S0 X R Ds) lo1 a0 l rc .busy wy fpy Rr) (.inRegion ops (i :: rest) :: k) σ := by
  refine Run.ask (Q := fun v => roundX (marksX (Q v) Ds) l rc .busy) ((hy.marks Ds).round l rc .busy) ho hop hc hg hxs hx hw hd ?_
  rintro v w fp ⟨fpX, h1, h2, h3, h4⟩
  obtain ⟨fp1, hq⟩ := marksX_ex Ds w fpX h1
  obtain ⟨z, X', hz, hm, hr⟩ := h v w fp1 hq
  exact ⟨z, roundX (marksX X' Ds) l rc .busy, hz, ⟨fpX, marksX_mono hm Ds w fpX h1, h2, h3, h4⟩, hr⟩

/-- A range over an iterator in an iterator: the outer part turns. -/
theorem Run.rangeFnM {P : Program} {fu : FuncId} {lo0 n : Nat} {t0 : Array Value} {w0 : World} {S0 : Foot} {R : Value → World → Prop} {Ds : List Nat} {S : Type} (XS : S → Res) (hLS : ∀ s, Local (XS s)) (s0 : S) {k : List Item} {σ : St} {g : Operand} {ps : Array Tmp} {assign body : Code} {f : FuncId} {vs : List Value} {z : AV}
    (hg : σ.ev g = some z) (hz : ∀ M, conc M z = .func (.func f) #[] vs.toArray) (hent : Enters P f)
    (lo : Nat) (tv t : List (Nat × AV)) (hvin : inT σ.t tv) (hvp : plainT tv = true) (htin : inT σ.t t) (hlo : keysLt lo t = true) (hps : psOK lo n ps.toList = true)
    {K : Nat → Prop} {xs : List (List Value)} (hit : Iter P f vs K w0 xs) (hK : ∀ b, K b → b < w0.heap.size ∧ ¬ S0 b) (hlen : ∀ x ∈ xs, x.length = ps.size)
    (Inv : List (List Value) → S → List (Nat × Blk) → Prop) (Stop : List (List Value) → S → Code → List (Nat × Blk) → Prop) (N : Nat)
    (h0 : List (Nat × Blk)) (hI0 : Inv [] s0 h0) (hin : inT σ.h h0)
    (hround : ∀ D l a0 rc wy fpy pre x s h Rr, (∀ s', RoundIn (opM P fu lo0 n t0 w0 S0 (XS s') R (D :: Ds)) lo t l wy fpy) → pre ++ [x] <+: xs → Inv pre s h →
      (∀ s' v w', roundR (opM P fu lo0 n t0 w0 S0 (XS s') R (D :: Ds)) t a0 l rc wy fpy (Inv (pre ++ [x]) s') (Stop (pre ++ [x]) s') v w' → Rr v w') →
      Run (roundC (opM P fu lo0 n t0 w0 S0 (XS s) R (D :: Ds)) lo a0 l rc .ready wy fpy Rr) [.code assign, .beginRound, .code body] ⟨parT (ps.toList.zip x) (tv ++ t), h, N⟩)
    (hdone : ∀ D s h, Inv xs s h → Run (opM P fu lo0 n t0 w0 S0 (XS s) R (D :: Ds)) k ⟨tv ++ t, h, N⟩)
    (hstop : ∀ D pre s c h, pre <+: xs → Stop pre s c h → Run (opM P fu lo0 n t0 w0 S0 (XS s) R (D :: Ds)) (.code c :: k) ⟨tv ++ t, h, N⟩) :
    Run (opM P fu lo0 n t0 w0 S0 (XS s0) R Ds) (.code (.rangeFunc g ps assign body) :: k) σ := by
  refine Run.rangeFnX (fun s => marksX (XS s) Ds) (fun s => marksX_local (hLS s) Ds) s0 rfl rfl hg hz hent lo tv t hvin hvp htin hlo hps hit hK hlen Inv Stop N h0 hI0 hin ?_ ?_ ?_
  · intro D l a0 rc wy fpy pre x s h hI hp hinv
    refine hround D l a0 rc wy fpy pre x s h _ (fun s' => ⟨markX_local (marksX_local (hLS s') Ds) D, hI.lw, hI.w0, hI.fy, hI.ln, hI.lo⟩) hp hinv fun s' v w' hr => ?_
    exact roundRX_of s' v w' hr
  · exact hdone
  · exact hstop

/-- An iterator's return behind ranges. -/
theorem Run.retIM {P : Program} {T : Tab} (hT : tabOK P T) {f : FuncId} {fn : Func} {lo n : Nat} {t0 : Array Value} {w0 : World} {S0 : Foot} {X : Res} (hX : Local X) {R : Value → World → Prop} {σ : St} {k : List Item} {Ds : List Nat}
    (hf : P.funcs[f]? = some fn) (hres : fn.results = #[]) (hR : ∀ v w' fp', Grown S0 w0 fp' w' → X w' fp' → R v w') : Run (opM P f lo n t0 w0 S0 X R Ds) (.code .ret :: k) σ := by
  refine Run.thaw (opM P f 0 n #[] w0 S0 X R Ds) (hi := n) (lo' := 0) (t0' := #[]) rfl ?_
  show Run (opM P f 0 n #[] w0 S0 X R Ds) (.code .ret :: k) σ
  rw [opM_eq]
  exact Run.retM (p := True) (l := []) hT hX hf (by rw [hres]; rfl) trivial fun M fp a w hr => hR _ w fp ⟨hr.agree, hr.fpok⟩ hr.outer

theorem Run.finIM {P : Program} {T : Tab} (hT : tabOK P T) {f : FuncId} {fn : Func} {lo n : Nat} {t0 : Array Value} {w0 : World} {S0 : Foot} {X : Res} (hX : Local X) {R : Value → World → Prop} {σ : St} {Ds : List Nat}
    (hf : P.funcs[f]? = some fn) (hres : fn.results = #[]) (hR : ∀ v w' fp', Grown S0 w0 fp' w' → X w' fp' → R v w') : Run (opM P f lo n t0 w0 S0 X R Ds) [] σ := by
  refine Run.thaw (opM P f 0 n #[] w0 S0 X R Ds) (hi := n) (lo' := 0) (t0' := #[]) rfl ?_
  show Run (opM P f 0 n #[] w0 S0 X R Ds) [] σ
  rw [opM_eq]
  exact Run.finM (p := True) (l := []) hT hX hf (by rw [hres]; rfl) trivial fun M fp a w hr => hR _ w fp ⟨hr.agree, hr.fpok⟩ hr.outer

/-- One cell of any type of one cell, loaded out of old memory. -/
theorem Run.loadExt {C : Ctx} {ops : Array Oper} {i : Nat} {rest : List Nat} {k : List Item} {σ : St} {o : Oper} {T : Tab} {t : Nat} {ti : TI} {a : Addr} {v : Value} {x : Operand}
    (hT : tabOK C.P T) (ho : ops[i]? = some o) (hop : o.op = .load t x) (hx : σ.ev x = some (.v (.pointer (some a)))) (hi : lk T t = some ti) (h1 : oneCellTy ti.d = true) (hc : C.w0.cell? a = some v) (hs : ¬ C.S0 a.block)
    (hw : wantOf ops σ o = some .yes) (hd : dstOK C.n o.dst = true) (h : Run C (.inRegion ops rest :: k) (σ.put o.dst (.v v))) : Run C (.inRegion ops (i :: rest) :: k) σ := by
  intro M fp ac w hR cs
  obtain ⟨m, s, z'⟩ := h M fp _ w (hR.put (z := .v v) (dstOK_lt hd)) cs
  refine ⟨m, .head (step_value ho (wantOf_yes hR.q hw) (fun c e => by rw [hop] at e; cases e) ?_) s, z'⟩
  have h2 := hR.q.ev hx
  simp only [conc] at h2
  have h3 := run_loadVar_one (w := w) hT hi h1 (hR.agree.cell hc hs)
  simp [execOp, hop, h2, Instr.loadAt, Instr.sureAddr, conc, h3]

/-! ### A run begun anew; some blocks are given up -/

def inTM (M : Loc) (t : List (Nat × AV)) : List (Nat × AV) → Prop
  | [] => True
  | (i, x) :: r => (∃ y, lk t i = some y ∧ conc M y = conc M x) ∧ inTM M t r

theorem inTM_lk {M : Loc} {t : List (Nat × AV)} : ∀ {l : List (Nat × AV)} {i : Nat} {x : AV}, inTM M t l → lk l i = some x → ∃ y, lk t i = some y ∧ conc M y = conc M x
  | [], i, x, _, h => by cases h
  | (j, z) :: r, i, x, hb, h => by
    simp only [lk] at h
    split at h
    · rename_i he
      have e := Nat.eq_of_beq_eq_true he
      subst e; cases h
      exact hb.1
    · exact inTM_lk hb.2 h

theorem Run.anew {C : Ctx} {todo : List Item} {σ : St} (lo : Nat) (T' : Loc → List (Nat × AV)) (h' : List (Nat × Blk)) (nx : Nat) (ht : ∀ M, inTM M σ.t (T' M)) (hh : inT σ.h h')
    (h : ∀ M w S1 t0, Base C.S0 C.w0 S1 w → (∀ id B, lk σ.h id = some B → BlkAt M w id B) → (∀ id B, lk σ.h id = some B → lk h' id = none → ¬ S1 (M id).1) →
      (∀ i x, lk σ.t i = some x → t0[i]? = some (conc M x)) → Run { C with w0 := w, S0 := S1, n := ⟨lo, C.n.hi⟩, t0 := t0 } todo ⟨T' M, h', nx⟩) : Run C todo σ := by
  intro M fp a w hR cs
  have hk : ∀ id B, lk h' id = some B → lk σ.h id = some B := fun id B hB => inT_lk hh id B hB
  refine h M w (fun b => fp b ∨ ∃ id B, lk h' id = some B ∧ (M id).1 = b) a.tmps ⟨hR.agree, ?_⟩ hR.heap ?_ hR.tmps M fp a w ?_ cs
  · rintro b (hb | ⟨id, B, hB, rfl⟩) hl
    · exact (hR.fpok b hb).2 hl
    · exact hR.own _ _ (hk _ _ hB) hl
  · rintro id B hB hn (hf | ⟨id', B', hB', e⟩)
    · exact hR.apart _ _ hB hf
    · have := hR.inj _ _ _ _ (hk _ _ hB') hB e
      subst this
      rw [hB'] at hn; cases hn
  · refine { heap := fun id B hB => hR.heap _ _ (hk _ _ hB), inj := fun id id' B B' hB hB' e => hR.inj _ _ _ _ (hk _ _ hB) (hk _ _ hB') e, own := fun id B hB _ => .inr ⟨id, B, hB, rfl⟩,
             apart := fun id B hB => hR.apart _ _ (hk _ _ hB), agree := Agree.refl _ _, outer := hR.outer, fpok := fun b hb => ⟨(hR.fpok b hb).1, fun _ => .inl hb⟩, size := hR.size, frozen := fun i _ => rfl,
             tmps := fun i x hx => ?_, defers := hR.defers }
    obtain ⟨y, hy, e⟩ := inTM_lk (ht M) hx
    rw [hR.tmps i y hy, e]
end Go.AM

/-
  The abstract machine, thirty-seventh part: a range over an iterator that hands over blocks, of which the outer part takes some; blocks given to the outer part. Own work; over any program.
-/
namespace Go.AM
open Go.RowKit

theorem Run.rangeFnHX {α : Type} {C : Ctx} {S : Type} (XS : S → Res) (hLS : ∀ s, Local (XS s)) (s0 : S) (hX0 : C.X = XS s0) {k : List Item} {σ : St} {g : Operand} {p : Tmp} {assign body : Code} {f : FuncId} {vs : List Value} {z : AV}
    (hro : C.b.roundOf = none) (hg : σ.ev g = some z) (hz : ∀ M, conc M z = .func (.func f) #[] vs.toArray) (hent : Enters C.P f)
    (lo : Nat) (t : List (Nat × AV)) (htin : inT σ.t t) (hlo : keysLt lo t = true) (hp : Nat.ble lo p = true) (hp2 : Nat.blt p C.n.hi = true)
    {K : Nat → Prop} {xs : List α} {zf : α → AV} {hf : α → List (Nat × Blk)} (hit : IterH C.P f vs K C.w0 xs zf hf) (hK : ∀ b, K b → b < C.w0.heap.size ∧ ¬ C.S0 b)
    (Inv : List α → S → List (Nat × Blk) → Prop) (Stop : List α → S → Code → List (Nat × Blk) → Prop) (N m : Nat)
    (htb : tBelow N t = true) (hib : ∀ pre s h, Inv pre s h → hBelow N h = true) (hfge : ∀ x ∈ xs, hGe N m (hf x) = true) (hzge : ∀ x ∈ xs, (zf x).ge N = true)
    (h0 : List (Nat × Blk)) (hI0 : Inv [] s0 h0) (hin : inT σ.h h0)
    (hround : ∀ D l a0 rc wy fpy pre x s h, (∀ s', RoundIn ((C.withX (XS s')).marked D) lo t l wy fpy) → pre ++ [x] <+: xs → Inv pre s h →
      Run (roundC ((C.withX (XS s)).marked D) lo a0 l rc .ready wy fpy (roundRX C XS D t a0 l rc wy fpy (Inv (pre ++ [x])) (Stop (pre ++ [x])))) [.code assign, .beginRound, .code body] ⟨(p, zf x) :: t, hf x ++ h, m⟩)
    (hdone : ∀ D s h, Inv xs s h → Run ((C.withX (XS s)).marked D) k ⟨t, h, N⟩)
    (hstop : ∀ D pre s c h, pre <+: xs → Stop pre s c h → Run ((C.withX (XS s)).marked D) (.code c :: k) ⟨t, h, N⟩) :
    Run C (.code (.rangeFunc g #[p] assign body) :: k) σ := by
  have hL : Local C.X := by rw [hX0]; exact hLS s0
  intro M fp a w hR cs
  let D := w.heap.size
  let l := w.heap.size + 1
  let rc : Loop := { state := .ready, pending := none, fn := C.b.fn, tmps := a.tmps, params := #[p], assign, body, defers := D }
  let W1 : World := (w.alloc (.deferred (some []))).alloc (.loop rc)
  let y : Value := .func (.yield l) #[] #[]
  have he : (Instr.enterLoop C.b.fn a.tmps #[p] assign body C.b.roundOf).run C.P w = .ok (l, [mark D]) W1 := by rw [hro]; exact run_enterLoop_outer C.b.fn a.tmps #[p] assign body
  have hres : (resolve a.eval (rangeCall g l) 0).run C.P W1 = .ok { target := .fn (.func f) vs.toArray, args := #[y] } W1 := by
    simp [resolve, hR.q.ev hg, hz, Deferred.ofValue, y]
    rfl
  have hinv : (invoke (.fn (.func f) vs.toArray) #[y]).run C.P W1 = .ok (.enter f (y :: vs).toArray) W1 := by
    have : (#[y] ++ vs.toArray : Array Value) = (y :: vs).toArray := by simp
    simp only [invoke, this, hent _ _]
  have s1 := stepR_rangeFunc (P := C.P) (b := C.b) (a := a) (k := k) (cs := cs) (w := w) he hres hinv
  have hws : W1.heap.size = w.heap.size + 2 := by simp only [W1, World.size_alloc]
  have hold : ∀ b, b < w.heap.size → W1.heap[b]? = w.heap[b]? := by
    intro b hb
    rw [old_alloc _ _ (by rw [World.size_alloc]; omega), old_alloc _ _ hb]
  have hD : W1.heap[D]? = some (.deferred (some [])) := by
    rw [old_alloc _ _ (by rw [World.size_alloc]; omega)]
    exact World.alloc_heap_new _ _
  have hl : W1.heap[l]? = some (.loop rc) := by
    have := World.alloc_heap_new (w.alloc (.deferred (some []))) (.loop rc)
    rw [show (w.alloc (.deferred (some []))).heap.size = l by simp only [World.size_alloc, l]] at this
    exact this
  have hblk : ∀ id B, lk h0 id = some B → lk σ.h id = some B := fun id B hB => inT_lk hin id B hB
  let J : List α → Res := fun pre w fp => ∃ s h M fpX, Inv pre s h ∧ LoopJ ((C.withX (XS s)).marked D) t a.tmps l rc .ready none h M fpX w fp
  let Js : List α → Res := fun pre w fp => ∃ s c h M fpX, Stop pre s c h ∧ LoopJ ((C.withX (XS s)).marked D) t a.tmps l rc .done (some c) h M fpX w fp
  have hLm : ∀ s, Local ((C.withX (XS s)).marked D).X := fun s => markX_local (hLS s) D
  have hJl : ∀ pre, Local (J pre) := fun pre w w' fp ⟨s, h, M, fpX, h1, h2⟩ _ hs => ⟨s, h, M, fpX, h1, h2.moved (hLm s) hs⟩
  have hJsl : ∀ pre, Local (Js pre) := fun pre w w' fp ⟨s, c, h, M, fpX, h1, h2⟩ _ hs => ⟨s, c, h, M, fpX, h1, h2.moved (hLm s) hs⟩
  let fp1 : Foot := fun b => (fp b ∨ b = D) ∨ b = l ∨ ∃ id B, lk h0 id = some B ∧ (M id).1 = b
  have hfl : ∀ b, fp b → b < w.heap.size := fun b hb => (hR.fpok b hb).1
  have hml : ∀ id B, lk h0 id = some B → (M id).1 < w.heap.size := fun id B hB => (hR.heap _ _ (hblk _ _ hB)).lt
  have hwle : C.w0.heap.size ≤ w.heap.size := hR.agree.size
  have hfp1 : ∀ b, fp1 b → b < W1.heap.size ∧ (b < C.w0.heap.size → C.S0 b) := by
    intro b hb
    rw [hws]
    rcases hb with (hb | rfl) | rfl | ⟨id, B, hB, rfl⟩
    · exact ⟨by have := hfl b hb; omega, (hR.fpok b hb).2⟩
    · exact ⟨by simp only [D]; omega, fun h => by simp only [D] at h; omega⟩
    · exact ⟨by simp only [l]; omega, fun h => by simp only [l] at h; omega⟩
    · exact ⟨by have := hml _ _ hB; omega, hR.own _ _ (hblk _ _ hB)⟩
  have hW1 : Agree C.S0 C.w0 W1 := ⟨hR.agree.os, hR.agree.tape, hR.agree.output, by rw [hws]; omega, fun b hb hs => by rw [hold b (by omega)]; exact hR.agree.block b hb hs⟩
  have hJ0 : J [] W1 fp1 := by
    refine ⟨s0, h0, M, fun b => fp b ∨ b = D, hI0, ?_⟩
    refine { tmps := fun i x hx => hR.tmps i x (inT_lk htin i x hx), heap := ?_, inj := ?_, own := ?_, apart := ?_, outer := ?_, fpok := ?_, rc := hl, lX := ?_, lnew := ?_, foot := fun b => Iff.rfl }
    · exact fun id B hB => (hR.heap _ _ (hblk _ _ hB)).same (hold _ (hml _ _ hB))
    · exact fun id id' B B' hB hB' e => hR.inj _ _ _ _ (hblk _ _ hB) (hblk _ _ hB') e
    · exact fun id B hB => hR.own _ _ (hblk _ _ hB)
    · intro id B hB
      have := hml _ _ hB
      refine ⟨fun hf => ?_, fun e => by simp only [l] at e; omega⟩
      rcases hf with hf | hf
      · exact hR.apart _ _ (hblk _ _ hB) hf
      · simp only [D] at hf; omega
    · exact ⟨fp, hX0 ▸ hL w W1 fp hR.outer hfl (fun b hb => hold b (hfl b hb)), fun hf => Nat.lt_irrefl _ (hfl _ hf), hD, fun b => Iff.rfl⟩
    · intro b hb
      exact hfp1 b (.inl hb)
    · intro hf
      rcases hf with hf | hf
      · have := hfl _ hf; simp only [l] at this; omega
      · simp only [l, D] at hf; omega
    · show C.w0.heap.size ≤ l
      simp only [l]; omega
  have hys : ∀ pre x, pre ++ [x] <+: xs → YieldsH C.P y J Js W1 fp1 pre x (zf x) (hf x) := by
    intro pre x hpx wy fpy F v hJy hitem hFf hgr
    obtain ⟨sx, h, M', fpX, hinvp, hJ⟩ := hJy
    obtain ⟨Mi, hv, hbi, hji, hFi⟩ := hitem
    have hx := hpx.subset (show x ∈ pre ++ [x] by simp)
    have hge := hfge x hx
    have hzg := hzge x hx
    have hbel := hib _ _ _ hinvp
    have hag : Agree C.S0 C.w0 wy := hW1.trans hgr.1 (fun i hi hl => (hfp1 i hi).2 hl)
    let fpz : Foot := fun b => fpy b ∨ F b
    have hfy : ∀ b, fpz b → b < C.w0.heap.size → C.S0 b := fun b hb hlt => (hfp1 b ((hgr.2 b hb).2 (by have := hW1.size; omega))).2 hlt
    let M'' : Loc := fun i => if i < N then M' i else Mi i
    have hlow : ∀ i, i < N → M'' i = M' i := fun i hi => by simp only [M'', if_pos hi]
    have hhi : ∀ i, N ≤ i → M'' i = Mi i := fun i hi => by simp only [M'', if_neg (Nat.not_lt.2 hi)]
    have key : ∀ id B, lk (hf x ++ h) id = some B → (N ≤ id ∧ lk (hf x) id = some B) ∨ (id < N ∧ lk h id = some B) := by
      intro id B hB
      rw [lk_append] at hB
      split at hB
      · rename_i u hu
        cases hB
        exact .inl ⟨(hGe_lk hge hu).1, hu⟩
      · exact .inr ⟨(lkh_below hbel hB).1, hB⟩
    have hinF : ∀ id B, lk (hf x) id = some B → F (Mi id).1 := fun id B hB => (hFi _).2 ⟨id, B, hB, rfl⟩
    have hinY : ∀ id B, lk h id = some B → fpy (M' id).1 := fun id B hB => (hJ.foot _).2 (.inr (.inr ⟨id, B, hB, rfl⟩))
    have hrun := run_yield (P := C.P) (args := #[v]) hJ.rc (by simp [rc])
    refine ⟨{ target := .fn (.yield l) #[], args := #[v] }, _, by simp [Deferred.ofValue, y], by simp only [invoke]; exact hrun, ?_⟩
    intro c cs'
    have hpl : p < a.tmps.size := by rw [hR.size]; simpa using hp2
    let a' : Act := { tmps := a.tmps.setIfInBounds p v, defers := [] }
    have htm : (#[p].zip #[v]).foldl (fun tmps (q : Nat × Value) => tmps.setIfInBounds q.1 q.2) a.tmps = a.tmps.setIfInBounds p v := by simp
    have hI : ∀ s', RoundIn ((C.withX (XS s')).marked D) lo t l wy fpz := fun s' => ⟨hLm s', .inl ((hJ.foot l).2 (.inr (.inl rfl))), hag, hfy, hJ.lnew, hlo⟩
    have hrel : Rel (roundC ((C.withX (XS sx)).marked D) lo a.tmps l rc .ready wy fpz (roundRX C XS D t a.tmps l rc wy fpz (Inv (pre ++ [x])) (Stop (pre ++ [x])))) M'' (fun b => fpX b ∨ b = l) ⟨(p, zf x) :: t, hf x ++ h, m⟩ a' wy := by
      refine { heap := ?_, inj := ?_, own := ?_, apart := ?_, agree := Agree.refl _ _, outer := ⟨fpX, hJ.outer, hJ.lX, hJ.rc, fun b => Iff.rfl⟩, fpok := ?_, size := ?_, frozen := ?_, tmps := ?_, defers := rfl }
      · intro id B hB
        rcases key id B hB with ⟨h1, h2⟩ | ⟨h1, h2⟩
        · exact BlkAt.congrG hhi h1 (hGe_lk hge h2).2.2.1 (hbi id B h2)
        · exact BlkAt.congr hlow h1 (lkh_below hbel h2).2 rfl (hJ.heap id B h2)
      · intro id id' B B' hB hB' e
        rcases key id B hB with ⟨h1, h2⟩ | ⟨h1, h2⟩ <;> rcases key id' B' hB' with ⟨h3, h4⟩ | ⟨h3, h4⟩
        · rw [hhi id h1, hhi id' h3] at e; exact hji _ _ _ _ h2 h4 e
        · rw [hhi id h1, hlow id' h3] at e; exact (hFf _ (hinF _ _ h2) (e ▸ hinY _ _ h4)).elim
        · rw [hlow id h1, hhi id' h3] at e; exact (hFf _ (hinF _ _ h4) (e ▸ hinY _ _ h2)).elim
        · rw [hlow id h1, hlow id' h3] at e; exact hJ.inj _ _ _ _ h2 h4 e
      · intro id B hB _
        rcases key id B hB with ⟨h1, h2⟩ | ⟨h1, h2⟩
        · rw [hhi id h1]; exact .inr (hinF _ _ h2)
        · rw [hlow id h1]; exact .inl (hinY _ _ h2)
      · intro id B hB hf'
        rcases key id B hB with ⟨h1, h2⟩ | ⟨h1, h2⟩
        · rw [hhi id h1] at hf'
          refine hFf _ (hinF _ _ h2) ((hJ.foot _).2 ?_)
          exact hf'.imp (fun h => h) .inl
        · rw [hlow id h1] at hf'
          exact hf'.elim (hJ.apart _ _ h2).1 (hJ.apart _ _ h2).2
      · intro b hb
        have hb' : fpy b := (hJ.foot b).2 (hb.imp id .inl)
        exact ⟨(hgr.2 b (.inl hb')).1, fun _ => .inl hb'⟩
      · show a'.tmps.size = C.n.hi
        simp only [a', Array.size_setIfInBounds]; exact hR.size
      · intro i hi
        show (a.tmps.setIfInBounds p v)[i]? = a.tmps[i]?
        have hi' : i < lo := hi
        have : p ≠ i := fun e => Nat.lt_irrefl i (Nat.lt_of_lt_of_le hi' (e ▸ Nat.le_of_ble_eq_true hp))
        rw [Array.getElem?_setIfInBounds, if_neg this]
      · intro i u hu
        simp only [lk] at hu
        show (a.tmps.setIfInBounds p v)[i]? = _
        split at hu
        · rename_i he
          have e := Nat.eq_of_beq_eq_true he
          subst e; cases hu
          rw [Array.getElem?_setIfInBounds, if_pos rfl, if_pos hpl, conc_congrG hhi _ hzg, hv]
        · rename_i he
          have hne : p ≠ i := fun e => by subst e; simp at he
          rw [Array.getElem?_setIfInBounds, if_neg hne, hJ.tmps i u hu, conc_congr hlow u (lk_below htb hu)]
    obtain ⟨m', s, zz⟩ := hround D l a.tmps rc wy fpz pre x sx h hI hpx hinvp M'' _ a' wy hrel (c :: cs')
    obtain ⟨r, w', rfl, fp', hg', hv'⟩ := zz c cs' rfl
    refine ⟨r, w', ⟨fp', hg', ?_⟩, ?_⟩
    · rcases hv' with ⟨hv', hh⟩ | ⟨hv', hh⟩
      · exact .inl ⟨hv', hh⟩
      · exact .inr ⟨hv', hh⟩
    · have hfr : Frame.round l C.b.fn ((#[p].zip #[v]).foldl (fun tmps (q : Nat × Value) => tmps.setIfInBounds q.1 q.2) a.tmps) assign body .normal =
          (roundC ((C.withX (XS sx)).marked D) lo a.tmps l rc .ready wy fpz (roundRX C XS D t a.tmps l rc wy fpz (Inv (pre ++ [x])) (Stop (pre ++ [x])))).b.atR a' [.code assign, .beginRound, .code body] := by
        rw [htm]; simp [Frame.round, Frame.atR, roundC, Ctx.marked, a']
      exact hfr ▸ s
  have hcall := hit y J Js W1 fp1 hJl hJsl hys hJ0 (fun b hb => (hfp1 b hb).1) (fun b hb hk => (hK b hk).2 ((hfp1 b hb).2 (hK b hk).1))
    ⟨hW1.os, hW1.tape, hW1.output, hW1.size, fun b hb hk => hW1.block b hb (fun hs => by
      have : K b := Classical.byContradiction hk
      exact (hK b this).2 hs)⟩
  obtain ⟨e, w', fr, ⟨v, rfl, fp', hgr, hend⟩, hsteps, _, hleave⟩ := hcall (C.b.atR { a with defers := [mark D] ++ a.defers } (.inRangeFunc l :: k) :: cs)
  have s2 := step_leave_returned (c := C.b.atR { a with defers := [mark D] ++ a.defers } (.inRangeFunc l :: k)) (cs := cs) hleave
  rw [finish_atR_inRangeFunc] at s2
  have hag : Agree C.S0 C.w0 w' := hW1.trans hgr.1 (fun i hi hl => (hfp1 i hi).2 hl)
  have key : ∀ (sx : S) (st : LoopState) (pd : Option Code) (h : List (Nat × Blk)) (M' : Loc) (fpX : Foot), st ≠ .busy → LoopJ ((C.withX (XS sx)).marked D) t a.tmps l rc st pd h M' fpX w' fp' →
      Run ((C.withX (XS sx)).marked D) ((pd.map Item.code).toList ++ k) ⟨t, h, N⟩ → ∃ m, Steps C.P (lone (C.b.atR a (.code (.rangeFunc g #[p] assign body) :: k)) cs w) m ∧ C.Z cs m := by
    intro sx st pd h M' fpX hst hJ hr
    obtain ⟨k1, k2, k3⟩ := hJ.record (hLm sx) (o := .loop { rc with state := .exhausted, pending := pd })
    have hrel : Rel ((C.withX (XS sx)).marked D) M' fpX ⟨t, h, N⟩ { a with defers := [mark D] ++ a.defers } (w'.putObj l (.loop { rc with state := .exhausted, pending := pd })) := by
      refine { heap := k1, inj := hJ.inj, own := hJ.own, apart := fun id B hB => (hJ.apart _ _ hB).1, agree := ?_, outer := k2, fpok := k3, size := hR.size, frozen := hR.frozen, tmps := hJ.tmps, defers := ?_ }
      · refine agree_putObj hag (fun h => ?_)
        have : C.w0.heap.size ≤ l := hJ.lnew
        exact absurd (show l < C.w0.heap.size from h) (by omega)
      · show [mark D] ++ a.defers = mark D :: C.ds
        rw [hR.defers]; rfl
    obtain ⟨m, s, zz⟩ := hr M' fpX _ _ hrel cs
    have s3 := stepR_endRangeFunc (P := C.P) (b := C.b) (a := { a with defers := [mark D] ++ a.defers }) (k := k) (cs := cs) (run_endLoop (P := C.P) hJ.rc hst)
    exact ⟨m, .head s1 (Steps.trans hsteps (.head s2 (.head s3 s))), zz⟩
  rcases hend with ⟨sx, h, M', fpX, hI, hJ⟩ | ⟨pre, hpre, sx, c, h, M', fpX, hS, hJ⟩
  · exact key sx .ready none h M' fpX (by simp) hJ (hdone D sx h hI)
  · exact key sx .done (some c) h M' fpX (by simp) hJ (hstop D pre sx c h hpre hS)

/-- The outer part takes a footprint in. -/
def Joins (X : Res) (F : Foot) (X' : Res) (w : World) : Prop := ∀ fp, X w fp → (∀ b, F b → ¬ fp b) → X' w (fun b => fp b ∨ F b)

theorem Joins.mark {X X' : Res} {F : Foot} {w : World} (h : Joins X F X' w) (D : Nat) : Joins (markX X D) F (markX X' D) w := by
  rintro fp ⟨fpX, h1, h2, h3, h4⟩ hF
  refine ⟨fun b => fpX b ∨ F b, h fpX h1 (fun b hb hf => hF b hb ((h4 b).2 (.inl hf))), ?_, h3, fun b => ?_⟩
  · rintro (hf | hf)
    · exact h2 hf
    · exact hF D hf ((h4 D).2 (.inr rfl))
  · show fp b ∨ F b ↔ (fpX b ∨ F b) ∨ b = D
    rw [h4 b]
    constructor
    · rintro ((h | h) | h)
      · exact .inl (.inl h)
      · exact .inr h
      · exact .inl (.inr h)
    · rintro ((h | h) | h)
      · exact .inl (.inl h)
      · exact .inr h
      · exact .inl (.inr h)

theorem Joins.round {X X' : Res} {F : Foot} {w : World} (h : Joins X F X' w) (l : Nat) (rc : Loop) (st : LoopState) : Joins (roundX X l rc st) F (roundX X' l rc st) w := by
  rintro fp ⟨fpX, h1, h2, h3, h4⟩ hF
  refine ⟨fun b => fpX b ∨ F b, h fpX h1 (fun b hb hf => hF b hb ((h4 b).2 (.inl hf))), ?_, h3, fun b => ?_⟩
  · rintro (hf | hf)
    · exact h2 hf
    · exact hF l hf ((h4 l).2 (.inr rfl))
  · show fp b ∨ F b ↔ (fpX b ∨ F b) ∨ b = l
    rw [h4 b]
    constructor
    · rintro ((h | h) | h)
      · exact .inl (.inl h)
      · exact .inr h
      · exact .inl (.inr h)
    · rintro ((h | h) | h)
      · exact .inl (.inl h)
      · exact .inr h
      · exact .inl (.inr h)

/-- The outer part, seen otherwise. -/
theorem Run.toX {C : Ctx} {todo : List Item} {σ : St} (X' : Res) (hX : ∀ w fp, C.X w fp → X' w fp) (h : Run (C.withX X') todo σ) : Run C todo σ := fun M fp a w hR cs =>
  h M fp a w { heap := hR.heap, inj := hR.inj, own := hR.own, apart := hR.apart, agree := hR.agree, outer := hX _ _ hR.outer, fpok := hR.fpok, size := hR.size, frozen := hR.frozen, tmps := hR.tmps, defers := hR.defers } cs

/-- An owned block is given to the outer part. -/
theorem Run.give {C : Ctx} {todo : List Item} {σ : St} (id : Nat) {B : Blk} (X' : Loc → Res) (T' : Loc → List (Nat × AV)) (h' : List (Nat × Blk)) (nx : Nat) (hB : lk σ.h id = some B) (hh : inT σ.h h') (hn : lk h' id = none) (ht : ∀ M, inTM M σ.t (T' M))
    (hj : ∀ M w, BlkAt M w id B → Joins C.X (fun b => b = (M id).1) (X' M) w)
    (h : ∀ M, Run (C.withX (X' M)) todo ⟨T' M, h', nx⟩) : Run C todo σ := by
  intro M fp a w hR cs
  have hk : ∀ i B, lk h' i = some B → lk σ.h i = some B := fun i B hB => inT_lk hh i B hB
  have hb := hR.heap _ _ hB
  refine h M M (fun b => fp b ∨ b = (M id).1) a w ?_ cs
  refine { heap := fun i B hB => hR.heap _ _ (hk _ _ hB), inj := fun i j B B' hB hB' e => hR.inj _ _ _ _ (hk _ _ hB) (hk _ _ hB') e, own := fun i B hB => hR.own _ _ (hk _ _ hB),
           apart := ?_, agree := hR.agree, outer := hj M w hb fp hR.outer (fun b hb => by rw [hb]; exact hR.apart _ _ hB), fpok := ?_, size := hR.size, frozen := hR.frozen, tmps := fun i x hx => ?_, defers := hR.defers }
  · rintro i Bi hi (hf | hf)
    · exact hR.apart _ _ (hk _ _ hi) hf
    · have := hR.inj _ _ _ _ (hk _ _ hi) hB hf
      subst this
      rw [hi] at hn; cases hn
  · rintro b (hf | rfl)
    · exact hR.fpok b hf
    · exact ⟨hb.lt, hR.own _ _ hB⟩
  · obtain ⟨y, hy, e⟩ := inTM_lk (ht M) hx
    rw [hR.tmps i y hy, e]
end Go.AM

/-
  The abstract machine, thirty-eighth part: operations that turn the outer part; blocks given to it along an order. Own work; over any program.
-/
namespace Go.AM
open Go.RowKit

section
variable {C : Ctx} {ops : Array Oper} {i : Nat} {rest : List Nat} {k : List Item} {σ : St} {o : Oper}

/-- An operation that turns the outer part and gives a plain value. -/
theorem Run.opX (ho : ops[i]? = some o) (hnd : ∀ c, o.op ≠ .defer c) (hw : wantOf ops σ o = some .yes) (hd : dstOK C.n o.dst = true)
    (h : ∀ M fp a w, Rel C M fp σ a w → ∃ v w' fp' X', (execOp a.eval o).run C.P w = .ok (.value v) w' ∧ Grown fp w fp' w' ∧ X' w' fp' ∧ Run (C.withX X') (.inRegion ops rest :: k) (σ.put o.dst (.v v))) :
    Run C (.inRegion ops (i :: rest) :: k) σ := by
  intro M fp a w hR cs
  obtain ⟨v, w', fp', X', hr, hg, hX, hrun⟩ := h M fp a w hR
  obtain ⟨m, s, z⟩ := hrun M fp' _ w' ((hR.grown hg hX).put (C := C.withX X') (z := .v v) (dstOK_lt hd)) cs
  exact ⟨m, .head (step_value ho (wantOf_yes hR.q hw) hnd hr) s, z⟩

/-- One that gives nothing. -/
theorem Run.effX (ho : ops[i]? = some o) (hnd : ∀ c, o.op ≠ .defer c) (hw : wantOf ops σ o = some .yes) (hdst : o.dst = none)
    (h : ∀ M fp a w, Rel C M fp σ a w → ∃ w' fp' X', (execOp a.eval o).run C.P w = .ok .skip w' ∧ Grown fp w fp' w' ∧ X' w' fp' ∧ Run (C.withX X') (.inRegion ops rest :: k) σ) :
    Run C (.inRegion ops (i :: rest) :: k) σ := by
  intro M fp a w hR cs
  obtain ⟨w', fp', X', hr, hg, hX, hrun⟩ := h M fp a w hR
  obtain ⟨m, s, z⟩ := hrun M fp' _ w' (hR.grown hg hX) cs
  refine ⟨m, .head (step_skipped ho (wantOf_yes hR.q hw) hnd hr) ?_, z⟩
  rw [hdst]; exact s

/-- A load out of the outer part. -/
theorem Run.loadX {T : Tab} {t : Nat} {ti : TI} {a : Addr} {x : Operand} {Q : Value → Prop} (hT : tabOK C.P T) (ho : ops[i]? = some o) (hop : o.op = .load t x) (hx : σ.ev x = some (.v (.pointer (some a)))) (hi : lk T t = some ti) (h1 : oneCellTy ti.d = true)
    (hX : ∀ w fp, C.X w fp → ∃ v, Q v ∧ w.cell? a = some v) (hw : wantOf ops σ o = some .yes) (hd : dstOK C.n o.dst = true) (h : ∀ v, Q v → Run C (.inRegion ops rest :: k) (σ.put o.dst (.v v))) :
    Run C (.inRegion ops (i :: rest) :: k) σ := by
  intro M fp ac w hR cs
  obtain ⟨v, hq, hc⟩ := hX w fp hR.outer
  obtain ⟨m, s, z'⟩ := h v hq M fp _ w (hR.put (z := .v v) (dstOK_lt hd)) cs
  refine ⟨m, .head (step_value ho (wantOf_yes hR.q hw) (fun c e => by rw [hop] at e; cases e) ?_) s, z'⟩
  have h2 := hR.q.ev hx
  simp only [conc] at h2
  have h3 := run_loadVar_one (w := w) hT hi h1 hc
  simp [execOp, hop, h2, Instr.loadAt, Instr.sureAddr, conc, h3]

theorem Grown.row {fp : Foot} {w : World} {g : Nat} {cs : Array Value} (hf : fp g) (hfp : ∀ b, fp b → b < w.heap.size) : Grown fp w fp (w.setRow g cs) :=
  ⟨⟨rfl, rfl, rfl, by simp, fun b _ hb => setRow_other _ _ _ _ (fun e => hb (e ▸ hf))⟩, fun b hb => ⟨by simpa using hfp b hb, fun _ => hb⟩⟩

/-- A cell of the outer part is written. -/
theorem Run.storeX {T : Tab} {t : Nat} {ti : TI} {g off : Nat} {v : Value} {x y : Operand} {X' : Res} (hT : tabOK C.P T) (ho : ops[i]? = some o) (hop : o.op = .store t x y) (hdst : o.dst = none) (hx : σ.ev x = some (.v (.pointer (some ⟨g, off, none⟩)))) (hy : σ.ev y = some (.v v))
    (hi : lk T t = some ti) (hs : ti.size = 1) (hv : v.oneCell' = true)
    (hX : ∀ w fp, C.X w fp → (∀ b, fp b → b < w.heap.size) → fp g ∧ ∃ cur e, w.heap[g]? = some (.cells cur e (0, 0)) ∧ off < cur.size ∧ X' (w.setRow g (cur.toList.take off ++ [v] ++ cur.toList.drop (off + 1)).toArray) fp)
    (hw : wantOf ops σ o = some .yes) (h : Run (C.withX X') (.inRegion ops rest :: k) σ) : Run C (.inRegion ops (i :: rest) :: k) σ := by
  refine Run.effX ho (fun c e => by rw [hop] at e; cases e) hw hdst fun M fp a w hR => ?_
  obtain ⟨hf, cur, e, hc, hlt, hX'⟩ := hX w fp hR.outer (fun b hb => (hR.fpok b hb).1)
  have ex := hR.q.ev hx
  have ey := hR.q.ev hy
  simp only [conc] at ex ey
  obtain ⟨c1, c2⟩ := okCell_one (M := M) (x := .v v) hv
  simp only [conc] at c1 c2
  have hrun := run_storeVar (P := C.P) hT hi (v := v) (by rw [c2, hs]; rfl) hc (o := off) (by omega) (by rw [c2]; simpa using hv)
  rw [c2, hs] at hrun
  refine ⟨_, fp, X', ?_, Grown.row hf (fun b hb => (hR.fpok b hb).1), hX', h⟩
  simp [execOp, hop, ex, ey, Instr.storeAt, Instr.sureAddr, hrun]

/-- An owned block is given to the outer part, along an order. -/
theorem RunO.give {held : List (Nat × Blk)} {n0 : Nat} {ord : List (Nat × Bool)} (id : Nat) {B : Blk} (X' : Loc → Res) (T' : Loc → List (Nat × AV)) (h' : List (Nat × Blk)) (nx : Nat) (hnx : n0 ≤ nx) (hB : lk σ.h id = some B) (hh : inT σ.h h') (hn : lk h' id = none) (ht : ∀ M, inTM M σ.t (T' M))
    (hj : ∀ M w, BlkAt M w id B → Joins C.X (fun b => b = (M id).1) (X' M) w)
    (h : ∀ M, RunO (C.withX (X' M)) held n0 ops ord k ⟨T' M, h', nx⟩) : RunO C held n0 ops ord k σ := by
  intro M0 M fp a w hM _ hR hS
  have hk : ∀ i B, lk h' i = some B → lk σ.h i = some B := fun i B hB => inT_lk hh i B hB
  have hb := hR.heap _ _ hB
  refine h M M0 M (fun b => fp b ∨ b = (M id).1) a w hM hnx ?_ hS
  refine { heap := fun i B hB => hR.heap _ _ (hk _ _ hB), inj := fun i j B B' hB hB' e => hR.inj _ _ _ _ (hk _ _ hB) (hk _ _ hB') e, own := fun i B hB => hR.own _ _ (hk _ _ hB),
           apart := ?_, agree := hR.agree, outer := hj M w hb fp hR.outer (fun b hb => by rw [hb]; exact hR.apart _ _ hB), fpok := ?_, size := hR.size, frozen := hR.frozen, tmps := fun i x hx => ?_, defers := hR.defers }
  · rintro i Bi hi (hf | hf)
    · exact hR.apart _ _ (hk _ _ hi) hf
    · have := hR.inj _ _ _ _ (hk _ _ hi) hB hf
      subst this
      rw [hi] at hn; cases hn
  · rintro b (hf | rfl)
    · exact hR.fpok b hf
    · exact ⟨hb.lt, hR.own _ _ hB⟩
  · obtain ⟨y, hy, e⟩ := inTM_lk (ht M) hx
    rw [hR.tmps i y hy, e]

/-- The last one, if it waits for all others, by what follows it. -/
theorem RunO.aloneLastZ {held : List (Nat × Blk)} {n0 : Nat} (hla : Nat.beq i (lastOf ops) = true) (ho : ops[i]? = some o)
    (h : ∀ M fp a w, Rel C M fp σ a w → OpW C.P ops i (fun a' w' => ∀ cs, ∃ m, Steps C.P (lone (C.b.atR a' k) cs w') m ∧ C.Z cs m) a w) :
    RunO C held n0 ops [(i, false)] k σ := by
  intro M0 M fp a w hM hn hR hS done listed hl hc
  simp only [chk, ho, Bool.and_eq_true, Bool.not_eq_true'] at hc
  obtain ⟨⟨⟨hc0, hc1⟩, hc2⟩, hc3⟩ := hc
  have hi : i < ops.size := (Array.getElem?_eq_some_iff.1 ho).1
  have hir : i ∈ Region.ready .any ops listed := mem_ready.2 ⟨hl.unlisted.2 ⟨hi, hc0⟩, o, ho, hl.rdy.1 hc1⟩
  refine ⟨fun e => (by rw [e] at hir; cases hir), fun j hj => ?_⟩
  obtain ⟨hun, oj, hoj, haft⟩ := mem_ready.1 hj
  have hji : j = i := by
    have := others_spec hc2 j oj (by simpa using hoj)
    simp only [Nat.zero_add] at this
    rcases this with h1 | h1 | h1
    · exact h1
    · have := (hl.unlisted.1 hun).2; rw [h1] at this; cases this
    · rw [hl.rdy.2 haft] at h1; cases h1
  subst hji
  refine (h M fp a w hR).mono ?_
  intro a' w' h3
  refine ⟨.inr (Nat.eq_of_beq_eq_true hla), ?_, h3⟩
  simp only [List.all_eq_true, List.mem_range] at hc3
  apply List.eq_nil_iff_forall_not_mem.2
  intro q hq
  obtain ⟨h0, oq, hoq, _⟩ := mem_ready.1 hq
  have := ((hl.set hi ho (hl.rdy.1 hc1)).unlisted.1 h0)
  rw [hc3 q this.1] at this
  cases this.2

/-- A call, the last of its region, by what follows it. -/
theorem RunO.callLast {held : List (Nat × Blk)} {n0 : Nat} {c : Call} {g : Operand} {f : FuncId} {caps xs : List AV} (hla : Nat.beq i (lastOf ops) = true) (ho : ops[i]? = some o) (hop : o.op = .call c) (hc : c.callee = .value g) (hg : σ.ev g = some (.fn f caps)) (hxs : evs σ c.args.toList = some xs) (hw : wantOf ops σ o = some .yes)
    (hent : Enters C.P f) (hd : dstOK C.n o.dst = true)
    (hcon : ∀ M fp a w, Rel C M fp σ a w → GivesR C.P f (concL M (xs ++ caps)) w (fun v w' => ∃ X' M' fp' σ' z, conc M' z = v ∧ Rel (C.withX X') M' fp' σ' a w' ∧ Run (C.withX X') k (σ'.put o.dst z))) :
    RunO C held n0 ops [(i, false)] k σ := by
  refine RunO.aloneLastZ hla ho fun M fp a w hR => ?_
  have h2 : c.args.map a.eval = (concL M xs).toArray := by apply Array.ext'; simpa using evs_conc hR.q hxs
  have hrun : (execOp a.eval o).run C.P w = .ok (.enter f (concL M (xs ++ caps)).toArray) w := by
    simp only [execOp, hop, resolve, hc, h2, hR.q.ev hg, conc, Deferred.ofValue]
    simp [invoke, hent _ _, concL_append]
  unfold OpW
  simp only [ho, if_pos (wantOf_yes hR.q hw), hrun]
  refine ⟨fun c e => (by rw [hop] at e; cases e), Calls.mono' (hcon M fp a w hR) fun e w' ⟨v, h1, X', M', fp', σ', z, hz, hR', hr⟩ => ⟨v, h1, fun cs => ?_⟩⟩
  have := hr M' fp' _ w' (hR'.put (C := C.withX X') (z := z) (dstOK_lt hd)) cs
  rwa [hz] at this

/-- One that comes up alone and turns the outer part. -/
theorem RunO.aloneX {held : List (Nat × Blk)} {n0 : Nat} {ord : List (Nat × Bool)} (ho : ops[i]? = some o)
    (h : ∀ M0 M fp a w, (∀ i, i < n0 → M i = M0 i) → n0 ≤ σ.nx → Rel C M fp σ a w → HS C M0 held w →
      OpW C.P ops i (fun a' w' => ∃ X' M' fp' σ', (∀ i, i < n0 → M' i = M0 i) ∧ n0 ≤ σ'.nx ∧ Rel (C.withX X') M' fp' σ' a' w' ∧ HS C M0 held w' ∧ RunO (C.withX X') held n0 ops ord k σ') a w) :
    RunO C held n0 ops ((i, false) :: ord) k σ := by
  intro M0 M fp a w hM hn hR hS done listed hl hc
  simp only [chk, ho, Bool.and_eq_true, Bool.not_eq_true'] at hc
  obtain ⟨⟨⟨hc0, hc1⟩, hc2⟩, hc3⟩ := hc
  have hi : i < ops.size := (Array.getElem?_eq_some_iff.1 ho).1
  have hir : i ∈ Region.ready .any ops listed := mem_ready.2 ⟨hl.unlisted.2 ⟨hi, hc0⟩, o, ho, hl.rdy.1 hc1⟩
  refine ⟨fun e => (by rw [e] at hir; cases hir), fun j hj => ?_⟩
  obtain ⟨hun, oj, hoj, haft⟩ := mem_ready.1 hj
  have hji : j = i := by
    have := others_spec hc2 j oj (by simpa using hoj)
    simp only [Nat.zero_add] at this
    rcases this with h1 | h1 | h1
    · exact h1
    · have := (hl.unlisted.1 hun).2; rw [h1] at this; cases this
    · rw [hl.rdy.2 haft] at h1; cases h1
  subst hji
  refine (h M0 M fp a w hM hn hR hS).mono ?_
  rintro a' w' ⟨X', M', fp', σ', h1, h2, h3, h4, h5⟩
  exact ⟨.inl h4, h5 M0 M' fp' a' w' h1 h2 h3 h4 (j :: done) _ (hl.set hi ho (hl.rdy.1 hc1)) hc3⟩

/-- A call that turns the outer part, along an order. -/
theorem RunO.callG {held : List (Nat × Blk)} {n0 : Nat} {ord : List (Nat × Bool)} {c : Call} {g : Operand} {f : FuncId} {caps xs : List AV} (hbel : hBelow n0 held = true) (hin : inT σ.h held) (ho : ops[i]? = some o) (hop : o.op = .call c) (hc : c.callee = .value g) (hg : σ.ev g = some (.fn f caps)) (hxs : evs σ c.args.toList = some xs)
    (hw : wantOf ops σ o = some .yes) (hent : Enters C.P f) (hd : dstOK C.n o.dst = true)
    (hcon : ∀ M fp a w, Rel C M fp σ a w → GivesR C.P f (concL M (xs ++ caps)) w (fun v w' => ∃ X' fp', Grown fp w fp' w' ∧ X' w' fp' ∧ RunO (C.withX X') held n0 ops ord k (σ.put o.dst (.v v)))) :
    RunO C held n0 ops ((i, false) :: ord) k σ := by
  refine RunO.aloneX ho fun M0 M fp a w hM hn hR hS => ?_
  have h2 : c.args.map a.eval = (concL M xs).toArray := by apply Array.ext'; simpa using evs_conc hR.q hxs
  have hrun : (execOp a.eval o).run C.P w = .ok (.enter f (concL M (xs ++ caps)).toArray) w := by
    simp only [execOp, hop, resolve, hc, h2, hR.q.ev hg, conc, Deferred.ofValue]
    simp [invoke, hent _ _, concL_append]
  unfold OpW
  simp only [ho, if_pos (wantOf_yes hR.q hw), hrun]
  refine ⟨fun c e => (by rw [hop] at e; cases e), Calls.mono' (hcon M fp a w hR) fun e w' ⟨v, h1, X', fp', hgr, hX, hr⟩ => ⟨v, h1, X', M, fp', _, hM, by cases o.dst <;> exact hn, ?_, ?_, hr⟩⟩
  · exact (hR.grown hgr hX).put (C := C.withX X') (z := .v v) (dstOK_lt hd)
  · refine ⟨fun id B hB => ?_, hS.2.trans hgr.1 (fun b hb hl => (hR.fpok b hb).2 hl)⟩
    have h3 := hS.1 id B hB
    have h4 := hR.apart id B (inT_lk hin id B hB)
    rw [hM id (lkh_below hbel hB).1] at h4
    exact h3.same (hgr.1.block _ h3.lt h4)

/-- append to a plain slice of ints or the like in the outer part: in its place, or in a new block. -/
theorem append_plain {P : Program} {T : Tab} (hT : tabOK P T) {t ty e : TypeId} {ti : TI} (hd : T.desc t = some (.slice e)) (hi : lk T e = some ti) (h1 : ti.size = 1) (hz1 : ti.zero.cells.size = 1) {w : World} {g n cap : Nat} {cur : Array Value} (hg : w.heap[g]? = some (.cells cur e (0, 0)))
    (hnc : n ≤ cap) (hcs : cur.size = cap) {a : Addr} {c : Nat} {u : Value} (hu : w.cell? a = some u) (hu1 : u.oneCell' = true) (h63 : n + 1 ≤ maxLen) (hb : (n + 1) * ti.bytes ≤ 140737488355328) :
    (n + 1 ≤ cap ∧ (Builtin.append_ #[t, t] ty #[.slice (some ⟨g, 0, none⟩) n cap, .slice (some a) 1 c]).run P w = .ok (.slice (some ⟨g, 0, none⟩) (n + 1) cap) (w.setRow g (cur.toList.take n ++ [u] ++ cur.toList.drop (n + 1)).toArray)) ∨
    ∃ cap' cs, n + 1 ≤ cap' ∧ cap' ≤ maxLen ∧ cs.size = cap' ∧ (Builtin.append_ #[t, t] ty #[.slice (some ⟨g, 0, none⟩) n cap, .slice (some a) 1 c]).run P w = .ok (.slice (some ⟨w.heap.size, 0, none⟩) (n + 1) cap') (w.drew.alloc (.cells cs e)) := by
  obtain ⟨_, xi, hxi, hxs, hxb, hxz⟩ := hT e ti hi
  have hund : P.underlying t = some (.slice e) := by
    unfold Tab.desc at hd
    split at hd
    · rename_i hh; cases hd; exact (hT t _ hh).1
    · cases hd
  have hnews : ∀ j x, [u][j]? = some x → w.cell? (a.add j) = some x := by
    intro j x hj
    cases j with
    | zero => simp at hj; subst hj; simpa [Addr.add] using hu
    | succ j => simp at hj
  have hml : maxLen = 9223372036854775807 := rfl
  by_cases hr : n + 1 ≤ cap
  · left
    have := run_append_room (P := P) w t ty e xi hund hxi g n cap cur hg a 1 c [u] (by simp [hxs, h1]) hnews (by simpa using hu1) hr (by simp [hxs, h1]; omega)
    rw [hxs, h1, Nat.mul_one] at this
    exact ⟨hr, this⟩
  · right
    have holds : ∀ j x, (cur.toList.take n)[j]? = some x → w.cell? ((⟨g, 0, none⟩ : Addr).add j) = some x := by
      intro j x hj
      rw [List.getElem?_take] at hj
      split at hj
      · rw [Addr.add_lit, Nat.zero_add, cell_of_row w _ _ _ _ _ hg]; simpa using hj
      · cases hj
    have := run_append_grow (P := P) w t ty e xi ti.zero hund hxi hxz ⟨g, 0, none⟩ n cap (cur.toList.take n) (by simp [hxs, h1]; omega) holds a 1 c [u] (by simp [hxs, h1]) hnews (by omega) (by omega) (growslice_fits (by omega) (by rw [hxb]; exact hb))
    have hge := grownCap_ge w (n + 1) cap e
    refine ⟨_, _, hge, grownCap_le_maxLen w (n + 1) cap e h63, ?_, this⟩
    simp only [Array.size_append, List.size_toArray, size_zeroCells, hz1, List.length_take, Array.length_toList, List.length_singleton]
    omega
end
end Go.AM

/-
  The abstract machine, thirty-ninth part: old memory given to the outer part; append to its slices. Own work; over any program.
-/
namespace Go.AM
open Go.RowKit

/-- What has been made since and stood still may be turned from here on, as the outer part. -/
theorem Run.unfreeze {C : Ctx} {todo : List Item} {σ : St} (F : Foot) (X' : Res) {w00 : World} (hF : ∀ b, F b → b < C.w0.heap.size ∧ ¬ C.S0 b ∧ w00.heap.size ≤ b) (hB : Based w00 C.w0 C.S0)
    (hX : ∀ w, Agree C.S0 C.w0 w → X' w F)
    (h : ∀ w S1, Agree C.S0 C.w0 w → Based w00 w S1 → (∀ b, b < C.w0.heap.size → ¬ C.S0 b → ¬ F b → ¬ S1 b) → Run { C with w0 := w, S0 := S1, X := X' } todo σ) : Run C todo σ := by
  intro M fp a w hR cs
  let S1 : Foot := fun b => b < w.heap.size ∧ (b < C.w0.heap.size → C.S0 b ∨ F b)
  refine h w S1 hR.agree ⟨hB.later hR.agree, fun b hb => ?_⟩ (fun b hl hs hf hb => (hb.2 hl).elim hs hf) M F a w ?_ cs
  · rcases Nat.lt_or_ge b C.w0.heap.size with hl | hl
    · rcases hb.2 hl with h1 | h1
      · exact hB.new b h1
      · exact (hF b h1).2.2
    · exact Nat.le_trans hB.agree.size hl
  · refine { heap := hR.heap, inj := hR.inj, own := fun id B hB _ => ⟨(hR.heap id B hB).lt, fun hl => .inl (hR.own id B hB hl)⟩, apart := fun id B hB hf => (hF _ hf).2.1 (hR.own id B hB (hF _ hf).1), agree := Agree.refl _ _, outer := hX w hR.agree,
             fpok := fun b hb => ?_, size := hR.size, frozen := hR.frozen, tmps := hR.tmps, defers := hR.defers }
    have h1 := (hF b hb).1
    exact ⟨Nat.lt_of_lt_of_le h1 hR.agree.size, fun _ => ⟨Nat.lt_of_lt_of_le h1 hR.agree.size, fun _ => .inr hb⟩⟩

section
variable {C : Ctx} {ops : Array Oper} {i : Nat} {rest : List Nat} {k : List Item} {σ : St} {o : Oper}

theorem Run.appendX {T : Tab} {t e : TypeId} {ti : TI} {c : Call} {x y : Operand} {g n cap id : Nat} {u : Value} {X1 : Res} {X2 : Nat → Nat → Res} (hT : tabOK C.P T) (ho : ops[i]? = some o) (hop : o.op = .call c) (hc : c.callee = .builtin .append) (hca : c.args = #[x, y]) (hct : c.argTypes = #[t, t])
    (hx : σ.ev x = some (.v (.slice (some ⟨g, 0, none⟩) n cap))) (hy : σ.ev y = some (.sl id 1 0 1)) (hB : lk σ.h id = some (.row e 1 1 [u])) (hu : u.oneCell' = true) (hd : T.desc t = some (.slice e)) (hi : lk T e = some ti) (h1 : ti.size = 1) (hz1 : ti.zero.cells.size = 1)
    (h63 : n + 1 ≤ maxLen) (hby : (n + 1) * ti.bytes ≤ 140737488355328) (hw : wantOf ops σ o = some .yes) (hdo : dstOK C.n o.dst = true)
    (hX : ∀ w fp, C.X w fp → (∀ b, fp b → b < w.heap.size) → fp g ∧ n ≤ cap ∧ ∃ cur, w.heap[g]? = some (.cells cur e (0, 0)) ∧ cur.size = cap ∧ (n + 1 ≤ cap → X1 (w.setRow g (cur.toList.take n ++ [u] ++ cur.toList.drop (n + 1)).toArray) fp) ∧
      ∀ (cs : Array Value) cap', cs.size = cap' → n + 1 ≤ cap' → cap' ≤ maxLen → X2 w.heap.size cap' (w.drew.alloc (.cells cs e)) (fun b => fp b ∨ b = w.heap.size))
    (hr1 : n + 1 ≤ cap → Run (C.withX X1) (.inRegion ops rest :: k) (σ.put o.dst (.v (.slice (some ⟨g, 0, none⟩) (n + 1) cap))))
    (hr2 : ∀ g' cap', Run (C.withX (X2 g' cap')) (.inRegion ops rest :: k) (σ.put o.dst (.v (.slice (some ⟨g', 0, none⟩) (n + 1) cap')))) : Run C (.inRegion ops (i :: rest) :: k) σ := by
  refine Run.opX ho (fun c e => by rw [hop] at e; cases e) hw hdo fun M fp a w hR => ?_
  obtain ⟨hf, hnc, cur, hg, hcs, hX1, hX2⟩ := hX w fp hR.outer (fun b hb => (hR.fpok b hb).1)
  have ex := hR.q.ev hx
  have ey := hR.q.ev hy
  simp only [conc, Nat.zero_mul, Nat.sub_zero] at ex ey
  have hb := hR.heap _ _ hB
  have hcu : w.cell? ⟨(M id).1, 0, none⟩ = some u := row_cells hb 0 u (by simp)
  rcases append_plain (P := C.P) hT (ty := o.type) hd hi h1 hz1 hg hnc hcs (a := ⟨(M id).1, 0, none⟩) (c := (M id).2) hcu hu h63 hby with ⟨hroom, hrun⟩ | ⟨cap', cs, q1, q2, q3, hrun⟩
  · refine ⟨_, _, fp, X1, ?_, Grown.row hf (fun b hb => (hR.fpok b hb).1), hX1 hroom, hr1 hroom⟩
    have hbu : ∀ cs', (builtin .append #[t, t] o.type cs' #[.slice (some ⟨g, 0, none⟩) n cap, .slice (some ⟨(M id).1, 0, none⟩) 1 (M id).2]).run C.P w = .ok (.value (.slice (some ⟨g, 0, none⟩) (n + 1) cap)) (w.setRow g (cur.toList.take n ++ [u] ++ cur.toList.drop (n + 1)).toArray) := fun cs' => by
      simp [builtin, hrun]
    simp [execOp, hop, resolve, hc, hca, hct, ex, ey, invoke, hbu]
  · refine ⟨_, w.drew.alloc (.cells cs e), fun b => fp b ∨ b = w.heap.size, X2 w.heap.size cap', ?_, ⟨⟨rfl, rfl, rfl, by simp, fun b hb _ => old_alloc w.drew _ hb⟩, ?_⟩, hX2 cs cap' q3 q1 q2, hr2 _ _⟩
    · have hbu : ∀ cs', (builtin .append #[t, t] o.type cs' #[.slice (some ⟨g, 0, none⟩) n cap, .slice (some ⟨(M id).1, 0, none⟩) 1 (M id).2]).run C.P w = .ok (.value (.slice (some ⟨w.heap.size, 0, none⟩) (n + 1) cap')) (w.drew.alloc (.cells cs e)) := fun cs' => by
        simp [builtin, hrun]
      simp [execOp, hop, resolve, hc, hca, hct, ex, ey, invoke, hbu]
    · rintro b (hb | rfl)
      · have h2 := (hR.fpok b hb).1
        refine ⟨?_, fun _ => hb⟩
        simp only [World.size_alloc]
        exact Nat.lt_succ_of_lt h2
      · refine ⟨?_, fun h => absurd h (Nat.lt_irrefl _)⟩
        simp only [World.size_alloc]
        exact Nat.lt_succ_self _
end
end Go.AM
