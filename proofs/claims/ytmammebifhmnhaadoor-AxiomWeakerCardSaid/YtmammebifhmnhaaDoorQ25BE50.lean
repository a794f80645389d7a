/-
  Own work, merged: A1.
-/
import Derived.AtR
import Derived.Below
import Derived.ChangeKeysEq
import Derived.KernelRfl
import Derived.LaidMore
import Derived.Laws.AppendOwn
import Derived.Laws.BytesString
import Derived.Laws.Cells
import Derived.Laws.CopyRow
import Derived.Laws.Entries
import Derived.Laws.Rows
import Derived.Laws.Small
import Derived.Laws.StructEq
import Derived.Lib.LaidTab
import Derived.Lib.TrailingZeros
import Derived.Maps.AppendAt
import Derived.OpenShut
import Derived.Orders
import Derived.ProofKit
import Derived.RangeFuncRecord
import Derived.SevenTiedAt
import Derived.Stop.Joined
import Derived.Test.YtmammebifhmnhaaDoorCards
import Derived.Test.YtmammebifhmnhaaDoorProg
import Derived.Test.YtmammebifhmnhaaDoorRows
import Derived.Test.YtmammebifhmnhaaDoorTie
import Derived.Test.YtmammebifhmnhaaDoorQ040C2B
/-
  Shortest ways round and orders of relations: taken over from the texts of layer 2 by a program of our own (tools/closure.py). Own work.
-/
namespace Go.Proofs.YtmammebifhmnhaaDoor
open Go.AM Relation
set_option maxRecDepth 100000

/-- Does a stand to b, numbers of whatever size? -/
def hasI (r : Rl) (a b : Int) : Bool := decide (0 ≤ a ∧ a < r.n ∧ 0 ≤ b ∧ b < r.n) && r.has a.toNat b.toNat

theorem has_ok (r : Rl) (a b : Int) (w : World) : Gives Tryd.prog 81 [encRel r, .int .i64 a, .int .i64 b] w (.bool (hasI (rightL r) a b)) := by
  refine Gives.of_run Tryd.func81 rfl (by show 3 ≤ 37; decide) ?_
  refine RunF_sound tab_ok noX_local 100 [] _ _ rfl ?_ ?_
  · simp
  refine Run.callFn noX_local rfl rfl rfl rfl rfl rfl rfl right_enters rfl (fun w' _ => right_ok r w') ?_
  have hn := rightL_n r
  generalize rightL r = R at hn
  by_cases c1 : 0 ≤ a
  · by_cases c2 : a < R.n
    · by_cases c3 : 0 ≤ b
      · by_cases c4 : b < R.n
        · have hk : a.toNat < 64 := by omega
          refine RunF_sound tab_ok noX_local 200 [true, true, true, true] _ _ rfl ?_ ?_
          · simp [segsVals, relV_one', c1, c2, c3, c4, relV_get _ _ hk, intAt_row _ _ hk]
            omega
          · refine Run.retP tab_ok Tryd.func81 rfl trivial (fun M => ?_)
            show Value.bool _ = _
            simp only [Nat.zero_add]
            rw [show 1 - 0 + a.toNat * 1 = 1 + a.toNat by omega, intAt_row _ _ hk, bit_eq]
            simp [hasI, c1, c2, c3, c4, Rl.has]
        · refine RunF_sound tab_ok noX_local 200 [true, true, true, false] _ _ rfl ?_ ?_
          · simp [segsVals, relV_one', c1, c2, c3, c4]
          · refine Run.retP tab_ok Tryd.func81 rfl trivial (fun M => ?_)
            simp [hasI, c4, conc]
      · refine RunF_sound tab_ok noX_local 200 [true, true, false] _ _ rfl ?_ ?_
        · simp [segsVals, relV_one', c1, c2, c3]
        · refine Run.retP tab_ok Tryd.func81 rfl trivial (fun M => ?_)
          simp [hasI, c3, conc]
    · refine RunF_sound tab_ok noX_local 200 [true, false] _ _ rfl ?_ ?_
      · simp [segsVals, relV_one', c1, c2]
      · refine Run.retP tab_ok Tryd.func81 rfl trivial (fun M => ?_)
        simp [hasI, c2, conc]
  · refine RunF_sound tab_ok noX_local 200 [false] _ _ rfl ?_ ?_
    · simp [segsVals, relV_one', c1]
    · refine Run.retP tab_ok Tryd.func81 rfl trivial (fun M => ?_)
      simp [hasI, c1, conc]

theorem has_enters : Enters Tryd.prog 81 := enters_mk Tryd.func81 (by decide) rfl

/-- The pairs of a relation. -/
abbrev Pr (R : Rl) : Nat → Nat → Prop := fun a b => R.has a b = true

/-- Right, in one: bounds and pairs. -/
structure Rt (R : Rl) : Prop where
  lo : 0 ≤ R.n
  hi : R.n ≤ 64
  lt : ∀ a b, R.has a b = true → (a : Int) < R.n ∧ (b : Int) < R.n

theorem Rt.right {R : Rl} (h : Rt R) : rightL R = R := by
  refine rightL_of _ ?_
  unfold checkI
  have hg : ∀ i, i < 64 → good R i = true := fun i hi => (good_iff R i h.lo).2 fun b hb ⟨h1, h2⟩ => by have := h.lt i b h1; omega
  have hlo := h.lo
  have hhi := h.hi
  rw [if_neg (by omega), if_pos hg]

theorem rt_of {R : Rl} (h : rightL R = R) : Rt R := by
  have hn := rightL_n R
  rw [h] at hn
  exact ⟨hn.1, hn.2, fun a b hb => by have := right_has R a b (by rw [h]; exact hb); rwa [h] at this⟩

theorem rt_right (r : Rl) : Rt (rightL r) := rt_of (rightL_idem r)

open Classical in
/-- The closure. -/
noncomputable def clos (R : Rl) : Rl := Rl.gen R.n fun a b => decide (TransGen (Pr R) a b)

theorem trans_lt {R : Rl} (hR : Rt R) {a b : Nat} (h : TransGen (Pr R) a b) : (a : Int) < R.n ∧ (b : Int) < R.n := by
  induction h with
  | single h => exact hR.lt _ _ h
  | tail _ h ih => exact ⟨ih.1, (hR.lt _ _ h).2⟩

theorem clos_n (R : Rl) : (clos R).n = R.n := by unfold clos; exact Rl.n_gen _ _

theorem clos_has {R : Rl} (hR : Rt R) (a b : Nat) : (clos R).has a b = true ↔ TransGen (Pr R) a b := by
  unfold clos
  rw [Rl.has_gen]
  have h2 := hR.hi
  constructor
  · intro h; simp at h; exact h.2
  · intro h
    have := trans_lt hR h
    simp [h]; omega

theorem clos_rt {R : Rl} (hR : Rt R) : Rt (clos R) := ⟨by rw [clos_n]; exact hR.lo, by rw [clos_n]; exact hR.hi, fun a b h => by rw [clos_n]; exact trans_lt hR ((clos_has hR a b).1 h)⟩

theorem clos_in {f g : Nat → Nat → Prop} (h1 : ∀ a b, f a b → g a b) (h3 : ∀ a b c, g a b → g b c → g a c) {a b : Nat} (h : TransGen f a b) : g a b := by
  induction h with
  | single h => exact h1 _ _ h
  | tail _ h ih => exact h3 _ _ _ ih (h1 _ _ h)

/-- What holds the relation, is held by its paths and is transitive is the closure. -/
theorem clos_of {R S : Rl} (hR : Rt R) (hn : S.n = R.n) (h1 : ∀ a b, R.has a b = true → S.has a b = true) (h2 : ∀ a b, S.has a b = true → TransGen (Pr R) a b)
    (h3 : ∀ a b c, S.has a b = true → S.has b c = true → S.has a c = true) : S = clos R := by
  apply Rl.ext_has
  · rw [hn, clos_n]
  · intro a b _ _
    rw [Bool.eq_iff_iff, clos_has hR]
    exact ⟨h2 a b, fun h => clos_in h1 h3 h⟩

theorem TransGen_trans {r : Nat → Nat → Prop} {a b c : Nat} (h1 : TransGen r a b) (h2 : TransGen r b c) : TransGen r a c := by
  induction h2 with
  | single h => exact .tail h1 h
  | tail _ h ih => exact .tail ih h

/-! ### The reference's way: add the composition until nothing is new. -/

def missing (S : Rl) : Nat := (List.range 4096).countP fun p => !S.has (p / 64) (p % 64)

theorem countP_lt {α : Type} {p q : α → Bool} : ∀ {l : List α}, (∀ x ∈ l, q x = true → p x = true) → (∃ x ∈ l, p x = true ∧ q x = false) → l.countP q < l.countP p
  | [], _, ⟨x, hx, _⟩ => by cases hx
  | y :: l, h, ⟨x, hx, h1, h2⟩ => by
    have hle : ∀ l : List α, (∀ x ∈ l, q x = true → p x = true) → l.countP q ≤ l.countP p := fun l h => List.countP_mono_left h
    rw [List.countP_cons, List.countP_cons]
    rcases List.mem_cons.1 hx with rfl | hx
    · have := hle l (fun x hx => h x (List.mem_cons_of_mem _ hx))
      simp [h1, h2]; omega
    · have := countP_lt (l := l) (fun x hx => h x (List.mem_cons_of_mem _ hx)) ⟨x, hx, h1, h2⟩
      by_cases hq : q y = true
      · have := h y (List.mem_cons_self ..) hq
        simp [hq, this]; omega
      · simp [hq]; omega

/-- After k rows of the round for i. -/
def warP (R : Rl) (i k : Nat) : Rl := Rl.by_ R.n fun x => if x < k ∧ R.has x i = true then R.row x ||| R.row i else R.row x

theorem warP_n (R : Rl) (i k : Nat) : (warP R i k).n = R.n := by unfold warP; exact Rl.n_by _ _

theorem warP_0 (R : Rl) (i : Nat) : warP R i 0 = R := by
  unfold warP
  conv => rhs; rw [← by_row R]
  exact Rl.by_congr fun x _ => by simp

theorem warP_row {R : Rl} {i k x : Nat} (hx : x < 64) : (warP R i k).row x = if x < k ∧ R.has x i = true then R.row x ||| R.row i else R.row x := by
  unfold warP; rw [Rl.row_by, if_pos hx]

theorem warP_self {R : Rl} {i k : Nat} (hi : i < 64) : (warP R i k).row i = R.row i := by
  rw [warP_row hi]; split
  · simp
  · rfl

theorem warP_at {R : Rl} {i k : Nat} (hk : k < 64) : (warP R i k).row k = R.row k := by
  rw [warP_row hk, if_neg (by omega)]

theorem warP_yes {R : Rl} {i k : Nat} (hi : i < 64) (hk : k < 64) (h : R.has k i = true) : (warP R i k).setRow k ((warP R i k).row k ||| (warP R i k).row i) = warP R i (k + 1) := by
  rw [warP_at hk, warP_self hi]
  unfold warP
  rw [Rl.set_by]
  refine Rl.by_congr fun x _ => ?_
  by_cases e : k = x
  · subst e; simp [h]
  · rw [if_neg e]
    have : (x < k ∧ R.has x i = true) ↔ (x < k + 1 ∧ R.has x i = true) := by constructor <;> rintro ⟨h1, h2⟩ <;> exact ⟨by omega, h2⟩
    simp only [this]

theorem warP_no {R : Rl} {i k : Nat} (h : R.has k i = false) : warP R i k = warP R i (k + 1) := by
  unfold warP
  refine Rl.by_congr fun x _ => ?_
  by_cases e : k = x
  · subst e; simp [h]
  · have : (x < k ∧ R.has x i = true) ↔ (x < k + 1 ∧ R.has x i = true) := by constructor <;> rintro ⟨h1, h2⟩ <;> exact ⟨by omega, h2⟩
    simp only [this]

theorem warP_has {R : Rl} (hR : Rt R) {i k : Nat} (hk : R.n ≤ (k : Int)) (x y : Nat) : (warP R i k).has x y = true ↔ R.has x y = true ∨ (R.has x i = true ∧ R.has i y = true) := by
  have h2 := hR.hi
  by_cases hx : x < 64
  · rw [Rl.has, warP_row hx]
    split
    · rename_i h
      rw [BitVec.getLsbD_or, Bool.or_eq_true]
      constructor
      · rintro (h' | h')
        · exact .inl h'
        · exact .inr ⟨h.2, h'⟩
      · rintro (h' | h')
        · exact .inl h'
        · exact .inr h'.2
    · rename_i h
      constructor
      · exact fun h' => .inl h'
      · rintro (h' | h')
        · exact h'
        · exact absurd ⟨by have := hR.lt _ _ h'.1; omega, h'.1⟩ h
  · have h3 : ∀ S : Rl, ∀ z, S.has x z = false := fun S z => by rw [Rl.has, Rl.row_ge _ (by omega)]; simp
    rw [h3, h3, h3]; simp

theorem warP_rt {R : Rl} (hR : Rt R) {i k : Nat} (hk : R.n ≤ (k : Int)) : Rt (warP R i k) := ⟨by rw [warP_n]; exact hR.lo, by rw [warP_n]; exact hR.hi, fun a b h => by
  rw [warP_n]
  rcases (warP_has hR hk a b).1 h with h | ⟨h, h'⟩
  · exact hR.lt _ _ h
  · exact ⟨(hR.lt _ _ h).1, (hR.lt _ _ h').2⟩⟩

/-- What holds after i rounds. -/
structure WarAt (R S : Rl) (i : Nat) : Prop where
  rt : Rt S
  n : S.n = R.n
  has : ∀ a b, R.has a b = true → S.has a b = true
  path : ∀ a b, S.has a b = true → TransGen (Pr R) a b
  trans : ∀ a b k, k < i → S.has a k = true → S.has k b = true → S.has a b = true

theorem WarAt.start {R : Rl} (hR : Rt R) : WarAt R R 0 := ⟨hR, rfl, fun _ _ h => h, fun _ _ h => .single h, fun _ _ _ h => by omega⟩

theorem war_trans {f g : Nat → Nat → Prop} {i : Nat} (hh : ∀ x y, g x y ↔ f x y ∨ (f x i ∧ f i y)) (ht : ∀ a b k, k < i → f a k → f k b → f a b) (a b j : Nat) (hj : j < i + 1) (h1 : g a j) (h2 : g j b) : g a b := by
  refine (hh a b).2 ?_
  by_cases e : j = i
  · subst e
    refine .inr ⟨?_, ?_⟩
    · rcases (hh a j).1 h1 with h1 | ⟨h1, _⟩ <;> exact h1
    · rcases (hh j b).1 h2 with h2 | ⟨_, h2⟩ <;> exact h2
  · have hj : j < i := by omega
    rcases (hh a j).1 h1 with h1 | ⟨h1, h1'⟩
    · rcases (hh j b).1 h2 with h2 | ⟨h2, h2'⟩
      · exact .inl (ht a b j hj h1 h2)
      · exact .inr ⟨ht a i j hj h1 h2, h2'⟩
    · rcases (hh j b).1 h2 with h2 | ⟨h2, h2'⟩
      · exact .inr ⟨h1, ht i b j hj h1' h2⟩
      · exact .inr ⟨h1, h2'⟩

theorem WarAt.next {R S : Rl} {i k : Nat} (h : WarAt R S i) (hk : S.n ≤ (k : Int)) : WarAt R (warP S i k) (i + 1) := by
  have hh := fun x y => warP_has h.rt (i := i) hk x y
  refine ⟨warP_rt h.rt hk, (warP_n _ _ _).trans h.n, fun a b h1 => (hh a b).2 (.inl (h.has a b h1)), fun a b h1 => ?_, war_trans (f := Pr S) (g := Pr (warP S i k)) hh h.trans⟩
  rcases (hh a b).1 h1 with h1 | ⟨h1, h2⟩
  · exact h.path _ _ h1
  · exact TransGen_trans (h.path _ _ h1) (h.path _ _ h2)

theorem WarAt.done {R S : Rl} {i : Nat} (hR : Rt R) (h : WarAt R S i) (hi : R.n ≤ (i : Int)) : S = clos R :=
  clos_of hR h.n h.has h.path fun a b c h1 h2 => h.trans a c b (by have := h.rt.lt _ _ h1; rw [h.n] at this; omega) h1 h2

theorem plus_ok (r : Rl) (w : World) : Gives Tryd.prog 107 [encRel r] w (encRel (clos (rightL r))) := by
  refine Gives.of_run Tryd.func107 rfl (by show 1 ≤ 39; decide) ?_
  refine RunF_sound tab_ok noX_local 100 [] _ _ rfl ?_ ?_
  · simp
  refine Run.callFn noX_local rfl rfl rfl rfl rfl rfl rfl right_enters rfl (fun w' _ => right_ok r w') ?_
  have hR := rt_right r
  generalize rightL r = R at hR
  have hlo := hR.lo
  have hhi := hR.hi
  refine RunF_sound tab_ok noX_local 100 [] _ _ rfl ?_ ?_
  · simp [segsVals, relV_one']
  suffices H : ∀ (d i : Nat) (S : Rl), (i : Int) + d = R.n → WarAt R S i → ∀ σ, inT σ.t [(1, .ptr 0 0), (2, .ptr 1 0), (8, .v (.int .i64 R.n)), (9, .v (.int .i64 (i : Int)))] →
      inT σ.h [(0, .cells 34 [.vals 65 (relV S)]), (1, .cells 34 [.vals 65 (relV (Rl.void 0))])] → Run _ _ σ by
    refine H R.n.toNat 0 R (by omega) (WarAt.start hR) _ ⟨rfl, rfl, ?_, rfl, trivial⟩ ⟨?_, rfl, trivial⟩
    · simp [lk]
    · simp [lk]
  intro d
  induction d with
  | zero =>
    intro i S hi hS σ ht hh
    refine Run.to ?_ ht hh (n' := 2)
    have hd := hS.done hR (by omega)
    refine RunF_sound tab_ok noX_local 100 [false] _ _ rfl ?_ ?_
    · simp [relV_one', segsVals]; omega
    · refine Run.retP tab_ok Tryd.func107 rfl ?_ (fun M => ?_)
      · simp
      rw [← hd]; rfl
  | succ d ih =>
    intro i S hi hS σ ht hh
    refine Run.to ?_ ht hh (n' := 2)
    have hi' : i < 64 := by omega
    have hSn := hS.n
    refine RunF_sound tab_ok noX_local 100 [true] _ _ rfl ?_ ?_
    · simp; omega
    suffices H2 : ∀ (e k : Nat), (k : Int) + e = R.n → ∀ σ, inT σ.t [(1, .ptr 0 0), (2, .ptr 1 0), (8, .v (.int .i64 R.n)), (9, .v (.int .i64 (i : Int))), (3, .v (.int .i64 (i : Int))), (13, .v (.int .i64 R.n)), (14, .v (.int .i64 (k : Int)))] →
        inT σ.h [(0, .cells 34 [.vals 65 (relV (warP S i k))]), (1, .cells 34 [.vals 65 (relV (Rl.void 0))])] → Run _ _ σ by
      refine H2 R.n.toNat 0 (by omega) _ ⟨rfl, rfl, rfl, rfl, rfl, ?_, rfl, trivial⟩ ⟨?_, rfl, trivial⟩
      · simp [lk, hSn]
      · rw [warP_0]; rfl
    intro e
    induction e with
    | zero =>
      intro k hk σ ht hh
      refine Run.to ?_ ht hh (n' := 2)
      refine RunF_sound tab_ok noX_local 100 [false] _ _ rfl ?_ ?_
      · simp; omega
      exact ih (i + 1) (warP S i k) (by omega) (hS.next (by omega)) _ ⟨rfl, rfl, rfl, i64_eq (wrap_succ (by omega)), trivial⟩ ⟨rfl, rfl, trivial⟩
    | succ e ihe =>
      intro k hk σ ht hh
      refine Run.to ?_ ht hh (n' := 2)
      have hk' : k < 64 := by omega
      have hb := bit1 (S.row k) i
      have hrow : (warP S i k).row k = S.row k := warP_at hk'
      by_cases c : (S.row k).getLsbD i = true
      · refine RunF_sound tab_ok noX_local 100 [true, true] _ _ rfl ?_ ?_
        · simp [relV_get _ _ hk', intAt_row _ _ hk', hrow, hb, c]; omega
        refine Run.drawA noX_local rfl [] [(0, .cells 34 [.vals 65 (relV (warP S i k))])] rfl rfl ⟨rfl, trivial⟩ ?_
        refine RunOF_sound tab_ok noX_local rfl rfl 11 [] _ _ rfl ?_ ?_
        · simp [relV_get _ _ hk', relV_get _ _ hi', intAt_row _ _ hk', intAt_row _ _ hi']; omega
        refine RunO.effLast tab_ok noX_local rfl rfl rfl rfl ?_ (fun e => by cases e) rfl ?_
        · simp [okCell, Value.oneCell']; omega
        refine RunF_sound tab_ok noX_local 100 [] _ _ rfl ?_ ?_
        · simp
        refine ihe (k + 1) (by omega) _ ⟨rfl, rfl, rfl, rfl, rfl, rfl, i64_eq (wrap_succ (by omega)), trivial⟩ ⟨congrArg (fun l => some (Blk.cells 34 [.vals 65 l])) ?_, rfl, trivial⟩
        have e1 : intAt (relV (warP S i k)) (1 + k) = un ((warP S i k).row k) := intAt_row _ _ hk'
        have e2 : intAt (relV (warP S i k)) (1 + i) = un ((warP S i k).row i) := intAt_row _ _ hi'
        simp [e1, e2, relV_set _ _ hk', warP_yes hi' hk' (show S.has k i = true from c)]
      · refine RunF_sound tab_ok noX_local 100 [true, false] _ _ rfl ?_ ?_
        · simp [relV_get _ _ hk', intAt_row _ _ hk', hrow, hb, c]; omega
        refine ihe (k + 1) (by omega) _ ⟨rfl, rfl, rfl, rfl, rfl, rfl, i64_eq (wrap_succ (by omega)), trivial⟩ ⟨?_, rfl, trivial⟩
        rw [← warP_no (show S.has k i = false by simpa [Rl.has] using c)]; rfl

theorem plus_enters : Enters Tryd.prog 107 := enters_mk Tryd.func107 (by decide) rfl

open Classical in
/-- No number is before itself. -/
noncomputable def irB (R : Rl) : Bool := decide (∀ i, R.has i i = false)

open Classical in
theorem irB_true {R : Rl} (h : ∀ i, R.has i i = false) : irB R = true := by unfold irB; exact decide_eq_true h

open Classical in
theorem irB_false {R : Rl} {i : Nat} (h : R.has i i = true) : irB R = false := by unfold irB; exact decide_eq_false fun h' => by rw [h' i] at h; cases h

theorem irreflexive_ok (r : Rl) (w : World) : Gives Tryd.prog 106 [encRel r] w (.bool (irB (rightL r))) := by
  refine Gives.of_run Tryd.func106 rfl (by show 1 ≤ 20; decide) ?_
  refine RunF_sound tab_ok noX_local 100 [] _ _ rfl ?_ ?_
  · simp
  refine Run.callFn noX_local rfl rfl rfl rfl rfl rfl rfl right_enters rfl (fun w' _ => right_ok r w') ?_
  have hR := rt_right r
  generalize rightL r = R at hR
  have hlo := hR.lo
  have hhi := hR.hi
  refine RunF_sound tab_ok noX_local 100 [] _ _ rfl ?_ ?_
  · simp [segsVals, relV_one']
  suffices H : ∀ (d i : Nat), (i : Int) + d = R.n → (∀ j, j < i → R.has j j = false) → ∀ σ, inT σ.t [(1, .ptr 0 0), (7, .v (.int .i64 R.n)), (8, .v (.int .i64 (i : Int)))] →
      inT σ.h [(0, .cells 34 [.vals 65 (relV R)])] → Run _ _ σ by
    refine H R.n.toNat 0 (by omega) (fun j h => by omega) _ ⟨rfl, ?_, rfl, trivial⟩ ⟨?_, trivial⟩
    · simp [lk]
    · simp [lk]
  intro d
  induction d with
  | zero =>
    intro i hi hj σ ht hh
    refine Run.to ?_ ht hh (n' := 2)
    refine RunF_sound tab_ok noX_local 100 [false] _ _ rfl ?_ ?_
    · simp; omega
    · refine Run.retP tab_ok Tryd.func106 rfl trivial (fun M => ?_)
      have : irB R = true := irB_true fun j => by
        cases h : R.has j j with
        | false => rfl
        | true => have := hR.lt _ _ h; rw [hj j (by omega)] at h; cases h
      rw [this]; rfl
  | succ d ih =>
    intro i hi hj σ ht hh
    refine Run.to ?_ ht hh (n' := 2)
    have hi' : i < 64 := by omega
    have hb := bit1 (R.row i) i
    by_cases c : (R.row i).getLsbD i = true
    · refine RunF_sound tab_ok noX_local 100 [true, true] _ _ rfl ?_ ?_
      · simp [relV_get _ _ hi', intAt_row _ _ hi', hb, c]; omega
      refine Run.retP tab_ok Tryd.func106 rfl trivial (fun M => ?_)
      have : irB R = false := irB_false (i := i) c
      rw [this]; rfl
    · refine RunF_sound tab_ok noX_local 100 [true, false] _ _ rfl ?_ ?_
      · simp [relV_get _ _ hi', intAt_row _ _ hi', hb, c]; omega
      refine ih (i + 1) (by omega) (fun j h => ?_) _ ⟨rfl, rfl, i64_eq (wrap_succ (by omega)), trivial⟩ ⟨rfl, trivial⟩
      by_cases e : j = i
      · subst e; simpa [Rl.has] using c
      · exact hj j (by omega)

theorem irreflexive_enters : Enters Tryd.prog 106 := enters_mk Tryd.func106 (by decide) rfl

theorem acyclic_ok (r : Rl) (w : World) : Gives Tryd.prog 82 [encRel r] w (.bool (irB (clos (rightL r)))) := by
  refine Gives.of_run Tryd.func82 rfl (by show 1 ≤ 6; decide) ?_
  refine RunF_sound tab_ok noX_local 100 [] _ _ rfl ?_ ?_
  · simp
  refine Run.callFn noX_local rfl rfl rfl rfl rfl rfl rfl plus_enters rfl (fun w' _ => plus_ok r w') ?_
  have hX := (clos_rt (rt_right r)).right
  generalize clos (rightL r) = X at hX
  refine RunF_sound tab_ok noX_local 100 [] _ _ rfl ?_ ?_
  · simp
  refine Run.callFn noX_local rfl rfl rfl rfl rfl rfl rfl irreflexive_enters rfl (fun w' _ => irreflexive_ok X w') ?_
  rw [hX]
  refine RunF_sound tab_ok noX_local 100 [] _ _ rfl ?_ ?_
  · simp
  exact Run.retP tab_ok Tryd.func82 rfl trivial (fun M => rfl)

theorem acyclic_enters : Enters Tryd.prog 82 := enters_mk Tryd.func82 (by decide) rfl

/-- The maker's cells: what must stand ahead of each number, how many, the list, what is done. -/
def ordV (A : Rl) (n : Nat) (sv : Value) (dn : BitVec 64) : List Value := (rowV A ++ [.int .i64 (n : Int)]) ++ [sv, .int .u64 (un dn)]

structure OrdC (w : World) (b : Nat) (A : Rl) (n : Nat) (sv : Value) (dn : BitVec 64) : Prop where
  at' : w.heap[b]? = some (.cells (ordV A n sv dn).toArray 146 (0, 0))

theorem OrdC.cell {w : World} {b : Nat} {A : Rl} {n : Nat} {sv : Value} {dn : BitVec 64} (h : OrdC w b A n sv dn) (q : Nat) : w.cell? ⟨b, q, none⟩ = (ordV A n sv dn)[q]? := by
  have := cells_of_blk (M := fun _ => (b, 0)) (w := w) (id := 0) (e := 146) (segs := [.vals 67 (ordV A n sv dn)]) ⟨by simpa [concSegs] using h.at', ⟨by simp [ordV], trivial⟩⟩ q
  simpa [concSegs] using this

theorem ordV_row (A : Rl) (n : Nat) (sv : Value) (dn : BitVec 64) (i : Nat) (hi : i < 64) : (ordV A n sv dn)[i]? = some (.int .u64 (un (A.row i))) := by
  unfold ordV
  rw [List.append_assoc, List.getElem?_append_left (by simpa using hi), rowV_get A i hi]

theorem ordV_done (A : Rl) (n : Nat) (sv : Value) (dn : BitVec 64) : (ordV A n sv dn)[66]? = some (.int .u64 (un dn)) := by
  unfold ordV
  rw [List.getElem?_append_right (by simp)]
  simp

theorem bit0 (x : BitVec 64) (i : Nat) : (band .u64 (un (x >>> i)) 1 = 0) ↔ x.getLsbD i = false := by
  rw [band1_un, un_eq0]
  constructor
  · intro h
    have := congrArg (fun z : BitVec 64 => z.getLsbD 0) h
    simpa using this
  · intro h
    apply BitVec.eq_of_getLsbD_eq
    intro j _
    rw [BitVec.getLsbD_and, BitVec.getLsbD_ushiftRight, BitVec.getLsbD_zero]
    cases j with
    | zero => simp [h]
    | succ j => simp [BitVec.getLsbD_one]

/-- May a number come next? -/
def rdyB (A : Rl) (dn : BitVec 64) (i : Nat) : Bool := !dn.getLsbD i && decide (A.row i &&& ~~~dn = 0#64)

theorem ready_ok (A : Rl) (n : Nat) (sv : Value) (dn : BitVec 64) (b i : Nat) (w : World) (h : OrdC w b A n sv dn) (hi : i < 64) :
    Gives Tryd.prog 115 [.pointer (some ⟨b, 0, none⟩), .int .i64 (i : Int)] w (.bool (rdyB A dn i)) := by
  refine Gives.of_run Tryd.func115 rfl (by show 2 ≤ 27; decide) ?_
  have c0 : w.cell? ⟨b, 66, none⟩ = some (.int .u64 (un dn)) := by rw [h.cell]; exact ordV_done _ _ _ _
  have c1 : w.cell? ⟨b, i, none⟩ = some (.int .u64 (un (A.row i))) := by rw [h.cell]; exact ordV_row _ _ _ _ _ hi
  refine RunF_sound tab_ok noX_local 100 [] _ _ rfl ?_ ?_
  · simp
  refine Run.drawA noX_local rfl [] [] rfl rfl trivial ?_
  by_cases c : dn.getLsbD i = true
  · refine RunOF_sound tab_ok noX_local rfl rfl 200 [false] _ _ rfl ?_ ?_
    · simp only [fnC_w0, fnC_S0, add_lit', Nat.zero_add, c0]
      simp [bit0, c]
    refine RunO.done ?_
    refine RunF_sound tab_ok noX_local 100 [] _ _ rfl ?_ ?_
    · simp
    refine Run.retP tab_ok Tryd.func115 rfl trivial (fun M => ?_)
    simp [conc, rdyB, c]
  · refine RunOF_sound tab_ok noX_local rfl rfl 200 [true] _ _ rfl ?_ ?_
    · simp only [fnC_w0, fnC_S0, add_lit', Nat.zero_add, Int.toNat_natCast, Nat.mul_one, c0, c1]
      simp [bit0, c]; omega
    refine RunO.done ?_
    refine RunF_sound tab_ok noX_local 100 [] _ _ rfl ?_ ?_
    · simp
    refine Run.retP tab_ok Tryd.func115 rfl trivial (fun M => ?_)
    simp only [fnC_w0, add_lit', Nat.zero_add, Int.toNat_natCast, Nat.mul_one, c0, c1]
    simp [conc, rdyB, c]
    rw [Bool.eq_iff_iff]; simp

theorem ready_enters : Enters Tryd.prog 115 := enters_mk Tryd.func115 (by decide) rfl

def encN (l : List Nat) : List Value := l.map fun i : Nat => Value.int .i64 (i : Int)

@[simp] theorem encN_length (l : List Nat) : (encN l).length = l.length := by simp [encN]

theorem encN_append (l m : List Nat) : encN (l ++ m) = encN l ++ encN m := by simp [encN]

theorem encN_one (l : List Nat) : ∀ u ∈ encN l, u.oneCell' = true := by
  intro u hu
  simp only [encN, List.mem_map] at hu
  obtain ⟨i, _, rfl⟩ := hu; rfl

/-- All orders that begin with a list, by how many are missing. -/
def extL (A : Rl) (n : Nat) : Nat → List Nat → BitVec 64 → List (List Nat)
  | 0, l, _ => [l]
  | d + 1, l, dn => (List.range n).flatMap fun i => if rdyB A dn i then extL A n d (l ++ [i]) (dn ||| 1#64 <<< i) else []

/-- A slice of numbers: nothing, or a row. -/
def SlAt (w : World) (sv : Value) (l : List Nat) : Option Nat → Prop
  | none => sv = .slice none 0 0 ∧ l = []
  | some b => ∃ cap n vs, sv = .slice (some ⟨b, 0, none⟩) l.length cap ∧ BlkAt (fun _ => (b, cap)) w 0 (.row 3 1 n vs) ∧ l.length ≤ n ∧ vs.take l.length = encN l

structure OnSt (w : World) (bo : Nat) (br : Option Nat) (A : Rl) (n : Nat) (l : List Nat) (dn : BitVec 64) : Prop where
  ex : ∃ sv, OrdC w bo A n sv dn ∧ SlAt w sv l br
  ne : br ≠ some bo

def onF (fp : Foot) (bo : Nat) (br : Option Nat) : Foot := fun b => fp b ∨ b = bo ∨ br = some b

/-- An order, handed over. -/
def zI (x : List Nat) : AV := .sl 50 1 0 x.length

def hI (x : List Nat) : List (Nat × Blk) := [(50, .row 3 1 x.length (encN x))]

def OnRes (w : World) (fp : Foot) (bo : Nat) (br : Option Nat) (A : Rl) (n : Nat) (l : List Nat) (dn : BitVec 64) (J Js : List (List Nat) → Res) (pre outs : List (List Nat)) (v : Value) (w' : World) : Prop :=
  ∃ fp' br', OnSt w' bo br' A n l dn ∧ Grown (onF fp bo br) w (onF fp' bo br') w' ∧ ¬ fp' bo ∧ (∀ b, br' = some b → ¬ fp' b) ∧
    (v = .bool true ∧ J (pre ++ outs) w' fp' ∨ v = .bool false ∧ ∃ q, q <+: pre ++ outs ∧ Js q w' fp')

def OnOK (A : Rl) (n d : Nat) : Prop := ∀ (l : List Nat) (dn : BitVec 64) (bo : Nat) (br : Option Nat) (w : World) (fp : Foot) (J Js : List (List Nat) → Res) (y : Value) (pre : List (List Nat)), l.length + d = n → OnSt w bo br A n l dn →
  (∀ b, onF fp bo br b → b < w.heap.size) → ¬ fp bo → (∀ b, br = some b → ¬ fp b) → (∀ q, Local (J q)) → (∀ q, Local (Js q)) → J pre w fp →
  (∀ q x, pre <+: q → q ++ [x] <+: pre ++ extL A n d l dn → YieldsH Tryd.prog y J Js w (onF fp bo br) q x (zI x) (hI x)) →
    GivesR Tryd.prog 110 [.pointer (some ⟨bo, 0, none⟩), y] w (OnRes w fp bo br A n l dn J Js pre (extL A n d l dn))

def ordB (A : Rl) (n : Nat) (lv : AV) (dn : BitVec 64) : Blk := .cells 146 [.vals 65 (rowV A ++ [.int .i64 (n : Int)]), .one lv, .one (.v (.int .u64 (un dn)))]

def onH (A : Rl) (n : Nat) (dn : BitVec 64) (k : Nat) : Option (Nat × List Value) → List (Nat × Blk)
  | none => [(0, ordB A n (.v (.slice none 0 0)) dn)]
  | some (m, vs) => [(0, ordB A n (.sl 1 1 0 k) dn), (1, .row 3 1 m vs)]

def onS (l : List Nat) : Option (Nat × List Value) → Prop
  | none => l = []
  | some (m, vs) => l.length ≤ m ∧ vs.take l.length = encN l

theorem ordB_at {M : AM.Loc} {w : World} {id : Nat} {A : Rl} {n : Nat} {lv : AV} {dn : BitVec 64} : BlkAt M w id (ordB A n lv dn) ↔ OrdC w (M id).1 A n (conc M lv) dn := by
  constructor
  · intro h
    refine ⟨?_⟩
    have := h.1
    simpa [ordB, concSegs, conc, ordV] using this
  · intro h
    have := h.at'
    exact ⟨by simpa [ordB, concSegs, conc, ordV] using this, by simp, trivial⟩

noncomputable abbrev onC (bo : Nat) (y : Value) (w : World) (fp : Foot) (br : Option Nat) (X : Res) (R : Value → World → Prop) : Ctx :=
  fnL Tryd.prog 110 2 (Tryd.f110).ntmps #[.pointer (some ⟨bo, 0, none⟩), y] w (onF fp bo br) X R

theorem on_enter {A : Rl} {n : Nat} {dn : BitVec 64} {l : List Nat} {y : Value} {bo : Nat} {br : Option Nat} {w : World} {fp : Foot} {X : Res} {R : Value → World → Prop} {c : Code} (hb : (Tryd.f110).body = some c)
    (hst : OnSt w bo br A n l dn) (hlt : ∀ b, onF fp bo br b → b < w.heap.size) (hfo : ¬ fp bo) (hfr : ∀ b, br = some b → ¬ fp b) (h0 : X w fp)
    (h : ∀ s, onS l s → Run (onC bo y w fp br X R) [.code c] ⟨[(0, .ptr 0 0), (1, .v y)], onH A n dn l.length s, 2⟩) :
    GivesR Tryd.prog 110 [.pointer (some ⟨bo, 0, none⟩), y] w R := by
  obtain ⟨⟨sv, hO, hS⟩, hne⟩ := hst
  have hfl : ∀ b, fp b → b < w.heap.size := fun b hb => hlt b (.inl hb)
  cases br with
  | none =>
    obtain ⟨rfl, rfl⟩ := hS
    let M : AM.Loc := fun _ => (bo, 0)
    have e : concL M [.ptr 0 0, .v y] = [.pointer (some ⟨bo, 0, none⟩), y] := by simp [concL, conc, M]
    rw [← e]
    have hf : footH M fp (onH A n dn 0 none) = onF fp bo none := by
      funext b; apply propext
      simp only [footH, onF, onH]
      constructor
      · rintro (h | ⟨id, B, hB, rfl⟩)
        · exact .inl h
        · exact .inr (.inl rfl)
      · rintro (h | rfl | h)
        · exact .inl h
        · exact .inr ⟨0, _, rfl, rfl⟩
        · cases h
    have hlk : ∀ id B, lk (onH A n dn 0 none) id = some B → id = 0 ∧ B = ordB A n (.v (.slice none 0 0)) dn := by
      intro id B hB
      simp only [onH, lk] at hB
      split at hB
      · rename_i he; cases hB; exact ⟨Nat.eq_of_beq_eq_true he, rfl⟩
      · cases hB
    refine givesL_of_run (h := onH A n dn 0 none) (nx := 2) (fp := fp) (X := X) Tryd.func110 hb (by show 2 ≤ 86; decide) h0 hfl ?_ ?_ ?_ ?_
    · intro id B hB
      obtain ⟨rfl, rfl⟩ := hlk id B hB
      exact ordB_at.2 hO
    · intro id id' B B' hB hB' _
      rw [(hlk id B hB).1, (hlk id' B' hB').1]
    · intro id B hB
      exact hfo
    · rw [hf, e]; exact h none rfl
  | some b =>
    obtain ⟨cap, m, vs, rfl, hB0, hm, hv⟩ := hS
    have hbo : b ≠ bo := fun e => hne (by rw [e])
    let M : AM.Loc := fun | 0 => (bo, 0) | _ => (b, cap)
    have e : concL M [.ptr 0 0, .v y] = [.pointer (some ⟨bo, 0, none⟩), y] := by simp [concL, conc, M]
    rw [← e]
    have hlk : ∀ id B, lk (onH A n dn l.length (some (m, vs))) id = some B → (id = 0 ∧ B = ordB A n (.sl 1 1 0 l.length) dn) ∨ (id = 1 ∧ B = .row 3 1 m vs) := by
      intro id B hB
      simp only [onH, lk] at hB
      split at hB
      · rename_i he; cases hB; exact .inl ⟨Nat.eq_of_beq_eq_true he, rfl⟩
      · split at hB
        · rename_i he; cases hB; exact .inr ⟨Nat.eq_of_beq_eq_true he, rfl⟩
        · cases hB
    have hf : footH M fp (onH A n dn l.length (some (m, vs))) = onF fp bo (some b) := by
      funext b'; apply propext
      simp only [footH, onF]
      constructor
      · rintro (h | ⟨id, B, hB, rfl⟩)
        · exact .inl h
        · rcases hlk id B hB with ⟨rfl, _⟩ | ⟨rfl, _⟩
          · exact .inr (.inl rfl)
          · exact .inr (.inr rfl)
      · rintro (h | rfl | h)
        · exact .inl h
        · exact .inr ⟨0, _, rfl, rfl⟩
        · cases h; exact .inr ⟨1, _, rfl, rfl⟩
    refine givesL_of_run (h := onH A n dn l.length (some (m, vs))) (nx := 2) (fp := fp) (X := X) Tryd.func110 hb (by show 2 ≤ 86; decide) h0 hfl ?_ ?_ ?_ ?_
    · intro id B hB
      rcases hlk id B hB with ⟨rfl, rfl⟩ | ⟨rfl, rfl⟩
      · refine ordB_at.2 ?_
        have : conc M (.sl 1 1 0 l.length) = .slice (some ⟨b, 0, none⟩) l.length cap := by simp [conc, M]
        rw [this]; exact hO
      · exact hB0
    · intro id id' B B' hB hB' he
      rcases hlk id B hB with ⟨rfl, _⟩ | ⟨rfl, _⟩ <;> rcases hlk id' B' hB' with ⟨rfl, _⟩ | ⟨rfl, _⟩ <;> first | rfl | exact absurd he.symm hbo | exact absurd he hbo
    · intro id B hB
      rcases hlk id B hB with ⟨rfl, _⟩ | ⟨rfl, _⟩
      · exact hfo
      · exact hfr b rfl
    · rw [hf, e]; exact h (some (m, vs)) ⟨hm, hv⟩

/-- What a state says of the maker. -/
def onAt (A : Rl) (n : Nat) (l : List Nat) (dn : BitVec 64) (h : List (Nat × Blk)) : Prop :=
  (lk h 0 = some (ordB A n (.v (.slice none 0 0)) dn) ∧ l = []) ∨
  ∃ id m vs, id ≠ 0 ∧ lk h 0 = some (ordB A n (.sl id 1 0 l.length) dn) ∧ lk h id = some (.row 3 1 m vs) ∧ l.length ≤ m ∧ vs.take l.length = encN l

theorem on_leave {A : Rl} {n : Nat} {dn : BitVec 64} {l : List Nat} {y : Value} {bo : Nat} {br : Option Nat} {w : World} {fp : Foot} {X : Res} {R : Value → World → Prop} {σ : St} {M : AM.Loc} {fp' : Foot} {a : Act} {w' : World}
    (hr : Rel (onC bo y w fp br X R) M fp' σ a w') (h0 : lk σ.t 0 = some (.ptr 0 0)) (hh : onAt A n l dn σ.h) :
    (M 0).1 = bo ∧ ∃ br', OnSt w' bo br' A n l dn ∧ Grown (onF fp bo br) w (onF fp' bo br') w' ∧ ¬ fp' bo ∧ ∀ b, br' = some b → ¬ fp' b := by
  have hbo : (M 0).1 = bo := hr.still (i := 0) (off := 0) (o := 0) (by show 0 < 2; decide) rfl h0
  refine ⟨hbo, ?_⟩
  have hgo : ∀ id B, lk σ.h id = some B → (M id).1 < w'.heap.size ∧ ((M id).1 < w.heap.size → onF fp bo br (M id).1) := fun id B hB => ⟨(hr.heap id B hB).lt, fun h => hr.own id B hB h⟩
  rcases hh with ⟨h1, rfl⟩ | ⟨id, m, vs, hid, h1, h2, h3, h4⟩
  · refine ⟨none, ⟨⟨.slice none 0 0, ?_, rfl, rfl⟩, by simp⟩, ⟨hr.agree, ?_⟩, ?_, fun b h => by cases h⟩
    · rw [← hbo]; exact ordB_at.1 (hr.heap 0 _ h1)
    · rintro b (hb | rfl | hb)
      · exact hr.fpok b hb
      · have := hgo 0 _ h1; rwa [hbo] at this
      · cases hb
    · rw [← hbo]; exact hr.apart 0 _ h1
  · have hne : (M id).1 ≠ bo := fun e => hid (hr.inj _ _ _ _ h2 h1 (e.trans hbo.symm))
    refine ⟨some (M id).1, ⟨⟨conc M (.sl id 1 0 l.length), ?_, (M id).2, m, vs, by simp [conc], hr.heap id _ h2, h3, h4⟩, fun e => hne (Option.some.inj e)⟩, ⟨hr.agree, ?_⟩, ?_, ?_⟩
    · rw [← hbo]; exact ordB_at.1 (hr.heap 0 _ h1)
    · rintro b (hb | rfl | hb)
      · exact hr.fpok b hb
      · have := hgo 0 _ h1; rwa [hbo] at this
      · cases hb; exact hgo id _ h2
    · rw [← hbo]; exact hr.apart 0 _ h1
    · intro b hb
      cases hb
      exact hr.apart id _ h2

theorem on_back {A : Rl} {n : Nat} {dn : BitVec 64} {l : List Nat} {y : Value} {bo : Nat} {br br1 br' : Option Nat} {w : World} {fp : Foot} {X X' : Res} {R : Value → World → Prop} {σ : St} {M : AM.Loc} {fp1 fp' : Foot} {a : Act} {w1 w' : World}
    (hr : Rel (onC bo y w fp br X R) M fp1 σ a w1) (hbo : (M 0).1 = bo) (hg0 : Grown (onF fp bo br) w (onF fp1 bo br1) w1) (hst : OnSt w' bo br' A n l dn) (hg : Grown (onF fp1 bo br1) w1 (onF fp' bo br') w')
    (hfo : ¬ fp' bo) (hfr : ∀ b, br' = some b → ¬ fp' b) (hl : l ≠ []) (hX : X' w' fp') (hb : tBelow σ.nx σ.t = true) (hn0 : 0 < σ.nx) :
    ∃ M' m vs, Rel (onC bo y w fp br X' R) M' fp' ⟨σ.t, [(0, ordB A n (.sl σ.nx 1 0 l.length) dn), (σ.nx, .row 3 1 m vs)], σ.nx + 1⟩ a w' ∧ l.length ≤ m ∧ vs.take l.length = encN l := by
  obtain ⟨⟨sv, hO, hS⟩, hne⟩ := hst
  cases br' with
  | none => exact absurd hS.2 hl
  | some b =>
    obtain ⟨cap, m, vs, rfl, hB0, hm, hv⟩ := hS
    have hbo' : b ≠ bo := fun e => hne (by rw [e])
    let M' : AM.Loc := fun i => if i = σ.nx then (b, cap) else M i
    have hlow : ∀ i, i < σ.nx → M' i = M i := fun i hi => by simp only [M', if_neg (Nat.ne_of_lt hi)]
    have hnx : M' σ.nx = (b, cap) := by simp only [M', if_true]
    have hM0 : (M' 0).1 = bo := by rw [hlow 0 hn0, hbo]
    have hlk : ∀ id B, lk [(0, ordB A n (.sl σ.nx 1 0 l.length) dn), (σ.nx, .row 3 1 m vs)] id = some B → (id = 0 ∧ B = ordB A n (.sl σ.nx 1 0 l.length) dn) ∨ (id = σ.nx ∧ B = .row 3 1 m vs) := by
      intro id B hB
      simp only [lk] at hB
      split at hB
      · rename_i he; cases hB; exact .inl ⟨Nat.eq_of_beq_eq_true he, rfl⟩
      · split at hB
        · rename_i he; cases hB; exact .inr ⟨Nat.eq_of_beq_eq_true he, rfl⟩
        · cases hB
    have hown : ∀ b', onF fp' bo (some b) b' → b' < w'.heap.size ∧ (b' < w.heap.size → onF fp bo br b') := (hg0.trans hg).2
    refine ⟨M', m, vs, ?_, hm, hv⟩
    refine { heap := ?_, inj := ?_, own := ?_, apart := ?_, agree := (hg0.trans hg).1, outer := hX, fpok := fun b' hb' => hown b' (.inl hb'), size := hr.size, frozen := hr.frozen, tmps := ?_, defers := hr.defers }
    · intro id B hB
      rcases hlk id B hB with ⟨rfl, rfl⟩ | ⟨rfl, rfl⟩
      · refine ordB_at.2 ?_
        have : conc M' (.sl σ.nx 1 0 l.length) = .slice (some ⟨b, 0, none⟩) l.length cap := by simp only [conc, hnx]; simp
        rw [this, hM0]; exact hO
      · have h1 : BlkAt (fun _ => M' σ.nx) w' 0 (.row 3 1 m vs) := by rw [hnx]; exact hB0
        exact h1
    · intro id id' B B' hB hB' he
      rcases hlk id B hB with ⟨rfl, _⟩ | ⟨rfl, _⟩ <;> rcases hlk id' B' hB' with ⟨rfl, _⟩ | ⟨rfl, _⟩
      · rfl
      · rw [hM0, hnx] at he; exact absurd he.symm hbo'
      · rw [hM0, hnx] at he; exact absurd he hbo'
      · rfl
    · intro id B hB hlt
      rcases hlk id B hB with ⟨rfl, _⟩ | ⟨rfl, _⟩
      · rw [hM0] at hlt ⊢; exact (hown bo (.inr (.inl rfl))).2 hlt
      · rw [hnx] at hlt ⊢; exact (hown b (.inr (.inr rfl))).2 hlt
    · intro id B hB
      rcases hlk id B hB with ⟨rfl, _⟩ | ⟨rfl, _⟩
      · rw [hM0]; exact hfo
      · rw [hnx]; exact hfr b rfl
    · intro i x hx
      rw [hr.tmps i x hx]
      congr 1
      exact (conc_congr hlow x (lk_below hb hx)).symm

theorem orderOn_enters : Enters Tryd.prog 110 := enters_mk Tryd.func110 (by decide) rfl

theorem ordAt_n (A : Rl) (n : Int) : intAt (rowV A ++ [Value.int .i64 n]) 64 = n := by simp [intAt]

theorem extL_0 (A : Rl) (n : Nat) (l : List Nat) (dn : BitVec 64) : extL A n 0 l dn = [l] := rfl

/-- All numbers stand. -/
theorem on_zero (A : Rl) (n : Nat) (hn : n ≤ 64) : OnOK A n 0 := by
  intro l dn bo br w fp J Js y pre hl hst hlt hfo hfr hJ hJs h0 hy
  have hl' : l.length = n := by omega
  refine on_enter rfl hst hlt hfo hfr h0 fun s hs => ?_
  have hyi := hy pre l (List.prefix_refl _) (by rw [extL_0]; exact List.prefix_refl _)
  have hout : ∀ X M fp' σ a w' v, Rel (onC bo y w fp br X (OnRes w fp bo br A n l dn J Js pre (extL A n 0 l dn))) M fp' σ a w' → lk σ.t 0 = some (.ptr 0 0) → onAt A n l dn σ.h →
      (X = J (pre ++ [l]) ∧ v = .bool true ∨ X = Js (pre ++ [l]) ∧ v = .bool false) → OnRes w fp bo br A n l dn J Js pre (extL A n 0 l dn) v w' := by
    intro X M fp' σ a w' v hr h0 hh hv
    obtain ⟨_, br', h1, h2, h3, h4⟩ := on_leave hr h0 hh
    refine ⟨fp', br', h1, h2, h3, h4, ?_⟩
    rcases hv with ⟨rfl, rfl⟩ | ⟨rfl, rfl⟩
    · exact .inl ⟨rfl, hr.outer⟩
    · exact .inr ⟨rfl, _, List.prefix_refl _, hr.outer⟩
  cases s with
  | none =>
    obtain rfl : l = [] := hs
    refine RunF_sound tab_ok (hJ pre) 100 [] _ _ rfl ?_ ?_
    · simp
    refine Run.drawA (hJ pre) rfl [] [(0, ordB A n (.v (.slice none 0 0)) dn)] rfl rfl ⟨rfl, trivial⟩ ?_
    refine RunOF_sound tab_ok (hJ pre) rfl rfl 200 [] _ _ rfl ?_ ?_
    · simp [ordAt_n]
    refine RunO.done ?_
    refine RunF_sound tab_ok (hJ pre) 200 [true] _ _ rfl ?_ ?_
    · simp at hl'
      simp [ordAt_n, Value.cells, repL, fillL, hl', maxLen]
      omega
    refine Run.yieldH (J := J) (Js := Js) (hrem := [(0, ordB A n (.v (.slice none 0 0)) dn)]) [(50, 2)] rfl hyi rfl rfl rfl rfl rfl ?_ ?_ rfl ⟨rfl, trivial⟩ rfl rfl rfl ?_ ?_
    · rfl
    · exact ⟨rfl, trivial⟩
    · refine RunF_sound tab_ok (hJ _) 100 [] _ _ rfl ?_ ?_
      · simp
      refine Run.retF tab_ok Tryd.func110 rfl trivial fun M fp' a w' hr => ?_
      exact hout _ M fp' _ a w' _ hr rfl (.inl ⟨rfl, rfl⟩) (.inl ⟨rfl, rfl⟩)
    · refine RunF_sound tab_ok (hJs _) 100 [] _ _ rfl ?_ ?_
      · simp
      refine Run.retF tab_ok Tryd.func110 rfl trivial fun M fp' a w' hr => ?_
      exact hout _ M fp' _ a w' _ hr rfl (.inl ⟨rfl, rfl⟩) (.inr ⟨rfl, rfl⟩)
  | some x =>
    obtain ⟨m, vs⟩ := x
    obtain ⟨hm, hv⟩ := hs
    refine RunF_sound tab_ok (hJ pre) 100 [] _ _ rfl ?_ ?_
    · simp
    refine Run.drawA (hJ pre) rfl [] [(0, ordB A n (.sl 1 1 0 l.length) dn)] rfl rfl ⟨rfl, trivial⟩ ?_
    refine RunOF_sound tab_ok (hJ pre) rfl rfl 200 [] _ _ rfl ?_ ?_
    · simp [ordAt_n]
    refine RunO.done ?_
    refine RunF_sound tab_ok (hJ pre) 200 [true] _ _ rfl ?_ ?_
    · simp [ordAt_n, Value.cells, repL, fillL, hl', maxLen]
      rw [← hl', hv]
      exact ⟨by omega, encN_one l⟩
    refine Run.yieldH (J := J) (Js := Js) (hrem := [(0, ordB A n (.sl 1 1 0 l.length) dn), (1, .row 3 1 m vs)]) [(50, 3)] rfl hyi rfl rfl rfl rfl rfl ?_ ?_ rfl ⟨rfl, rfl, trivial⟩ rfl rfl rfl ?_ ?_
    · show AV.sl 3 1 0 (0 + l.length) = .sl 3 1 0 l.length
      rw [Nat.zero_add]
    · refine ⟨congrArg some ?_, trivial⟩
      show Blk.row 3 1 (0 + l.length) _ = .row 3 1 l.length (encN l)
      rw [Nat.zero_add]
      congr 1
      simpa using hv
    · refine RunF_sound tab_ok (hJ _) 100 [] _ _ rfl ?_ ?_
      · simp
      refine Run.retF tab_ok Tryd.func110 rfl trivial fun M fp' a w' hr => ?_
      exact hout _ M fp' _ a w' _ hr rfl (.inr ⟨1, m, vs, by decide, rfl, rfl, hm, hv⟩) (.inl ⟨rfl, rfl⟩)
    · refine RunF_sound tab_ok (hJs _) 100 [] _ _ rfl ?_ ?_
      · simp
      refine Run.retF tab_ok Tryd.func110 rfl trivial fun M fp' a w' hr => ?_
      exact hout _ M fp' _ a w' _ hr rfl (.inr ⟨1, m, vs, by decide, rfl, rfl, hm, hv⟩) (.inr ⟨rfl, rfl⟩)

theorem encN_app {vs : List Value} {l : List Nat} (hv : vs.take l.length = encN l) (i : Nat) : (vs.take (l.length * 1) ++ [Value.int .i64 (i : Int)]).take (l.length + 1) = encN (l ++ [i]) := by
  rw [Nat.mul_one, hv, encN_append]
  refine List.take_of_length_le ?_
  simp

theorem encN_back {vs : List Value} {l : List Nat} {i : Nat} (hv : vs.take (l ++ [i]).length = encN (l ++ [i])) : vs.take l.length = encN l := by
  have := congrArg (List.take l.length) hv
  rw [List.take_take, encN_append, List.take_left' (by simp)] at this
  rw [← this]
  congr 1
  simp

/-- What a number leads to. -/
def extF (A : Rl) (n d : Nat) (l : List Nat) (dn : BitVec 64) (i : Nat) : List (List Nat) := if rdyB A dn i then extL A n d (l ++ [i]) (dn ||| 1#64 <<< i) else []

def extP (A : Rl) (n d : Nat) (l : List Nat) (dn : BitVec 64) (i : Nat) : List (List Nat) := (List.range i).flatMap (extF A n d l dn)

theorem extL_succ (A : Rl) (n d : Nat) (l : List Nat) (dn : BitVec 64) : extL A n (d + 1) l dn = extP A n d l dn n := rfl

theorem extP_succ (A : Rl) (n d : Nat) (l : List Nat) (dn : BitVec 64) (i : Nat) : extP A n d l dn (i + 1) = extP A n d l dn i ++ extF A n d l dn i := by
  simp [extP, List.range_succ]

theorem extP_prefix (A : Rl) (n d : Nat) (l : List Nat) (dn : BitVec 64) {i j : Nat} (h : i ≤ j) : extP A n d l dn i <+: extP A n d l dn j := by
  obtain ⟨k, rfl⟩ := Nat.exists_eq_add_of_le h
  induction k with
  | zero => exact List.prefix_refl _
  | succ k ih => exact (ih (by omega)).trans ⟨_, (extP_succ A n d l dn (i + k)).symm⟩

theorem bit_off {dn : BitVec 64} {i : Nat} (h : dn.getLsbD i = false) : (dn ||| 1#64 <<< i) &&& ~~~(1#64 <<< i) = dn := by
  apply BitVec.eq_of_getLsbD_eq
  intro j hj
  rw [BitVec.getLsbD_and, BitVec.getLsbD_or, BitVec.getLsbD_not]
  by_cases hi : i < 64
  · rw [one_shl_get i j hi]
    by_cases e : j = i
    · subst e; simp only [h, decide_true, Bool.false_or, hj, Bool.not_true, Bool.and_false]
    · simp only [e, hj, decide_true, decide_false, Bool.or_false, Bool.not_false, Bool.and_true]
  · have : (1#64 <<< i).getLsbD j = false := by
      rw [BitVec.getLsbD_shiftLeft]
      have : j < i := by omega
      simp [this]
    simp only [this, hj, decide_true, Bool.or_false, Bool.not_false, Bool.and_true]

theorem rdyB_off {A : Rl} {dn : BitVec 64} {i : Nat} (h : rdyB A dn i = true) : dn.getLsbD i = false := by
  unfold rdyB at h
  simp at h
  exact h.1

noncomputable def onBody : Code := (Tryd.f110).body.get rfl

theorem Run.join7 {C : Ctx} {K : List Item} {S0 : St} (P : St → Prop) (h : ∃ k7, ((∀ σ', P σ' → Run C k7 σ') → Run C K S0) ∧ (∀ σ', P σ' → Run C k7 σ')) : Run C K S0 := let ⟨_, h1, h2⟩ := h; h1 h2

/-- The loop's temporaries. -/
abbrev onT (y : Value) (n i : Nat) : List (Nat × AV) := [(0, .ptr 0 0), (1, .v y), (28, .v (.int .i64 (n : Int))), (29, .v (.int .i64 (i : Int)))]

set_option maxHeartbeats 1000000 in
theorem on_succ (A : Rl) (n : Nat) (hn : n ≤ 64) (d : Nat) (ih : OnOK A n d) : OnOK A n (d + 1) := by
  intro l dn bo br w fp J Js y pre hl hst hlt hfo hfr hJ hJs h0 hy
  have hl' : l.length < n := by omega
  refine on_enter (c := onBody) rfl hst hlt hfo hfr h0 fun s hs => ?_
  rw [extL_succ] at hy ⊢
  generalize hRR : OnRes w fp bo br A n l dn J Js pre (extP A n d l dn n) = RR
  have hout : ∀ X M fp' σ a w' v, Rel (onC bo y w fp br X RR) M fp' σ a w' → lk σ.t 0 = some (.ptr 0 0) → onAt A n l dn σ.h →
      (X = J (pre ++ extP A n d l dn n) ∧ v = .bool true ∨ (∃ q, q <+: pre ++ extP A n d l dn n ∧ X = Js q) ∧ v = .bool false) → RR v w' := by
    intro X M fp' σ a w' v hr h0 hh hv
    obtain ⟨_, br', h1, h2, h3, h4⟩ := on_leave hr h0 hh
    rw [← hRR]
    refine ⟨fp', br', h1, h2, h3, h4, ?_⟩
    rcases hv with ⟨rfl, rfl⟩ | ⟨⟨q, hq, rfl⟩, rfl⟩
    · exact .inl ⟨rfl, hr.outer⟩
    · exact .inr ⟨rfl, q, hq, hr.outer⟩
  obtain ⟨k, hk1, hk2⟩ : ∃ k, (∀ s, onS l s → Run (onC bo y w fp br (J pre) RR) k ⟨onT y n 0, onH A n dn l.length s, 2⟩ →
        Run (onC bo y w fp br (J pre) RR) [.code onBody] ⟨[(0, .ptr 0 0), (1, .v y)], onH A n dn l.length s, 2⟩) ∧
      (∀ m i s, i + m = n → onS l s → Run (onC bo y w fp br (J (pre ++ extP A n d l dn i)) RR) k ⟨onT y n i, onH A n dn l.length s, 2⟩) := by
    apply Exists.intro
    apply And.intro
    · rintro (_ | ⟨m, vs⟩) hs h
      · refine RunF_sound tab_ok (hJ pre) 100 [] _ _ rfl ?_ ?_
        · simp
        refine Run.drawA (hJ pre) rfl [] [(0, ordB A n (.v (.slice none 0 0)) dn)] rfl rfl ⟨rfl, trivial⟩ ?_
        refine RunOF_sound tab_ok (hJ pre) rfl rfl 200 [] _ _ rfl ?_ ?_
        · simp [ordAt_n]
        refine RunO.done ?_
        obtain rfl : l = [] := hs
        refine RunF_sound tab_ok (hJ pre) 200 [false] _ _ rfl ?_ ?_
        · simp at hl'
          simp [ordAt_n]; omega
        exact Run.to h ⟨rfl, rfl, by simp [ordAt_n, lk], rfl, trivial⟩ ⟨rfl, trivial⟩
      · refine RunF_sound tab_ok (hJ pre) 100 [] _ _ rfl ?_ ?_
        · simp
        refine Run.drawA (hJ pre) rfl [] [(0, ordB A n (.sl 1 1 0 l.length) dn)] rfl rfl ⟨rfl, trivial⟩ ?_
        refine RunOF_sound tab_ok (hJ pre) rfl rfl 200 [] _ _ rfl ?_ ?_
        · simp [ordAt_n]
        refine RunO.done ?_
        refine RunF_sound tab_ok (hJ pre) 200 [false] _ _ rfl ?_ ?_
        · simp [ordAt_n]; omega
        exact Run.to h ⟨rfl, rfl, by simp [ordAt_n, lk], rfl, trivial⟩ ⟨rfl, rfl, trivial⟩
    · intro m
      induction m with
      | zero =>
        intro i s hi hs
        obtain rfl : i = n := by omega
        rcases s with _ | ⟨m, vs⟩
        · refine RunF_sound tab_ok (hJ _) 100 [false] _ _ rfl ?_ ?_
          · simp
          refine Run.retF tab_ok Tryd.func110 rfl trivial fun M fp' a w' hr => ?_
          exact hout _ M fp' _ a w' _ hr rfl (.inl ⟨rfl, hs⟩) (.inl ⟨rfl, rfl⟩)
        · refine RunF_sound tab_ok (hJ _) 100 [false] _ _ rfl ?_ ?_
          · simp
          refine Run.retF tab_ok Tryd.func110 rfl trivial fun M fp' a w' hr => ?_
          exact hout _ M fp' _ a w' _ hr rfl (.inr ⟨1, m, vs, by decide, rfl, rfl, hs.1, hs.2⟩) (.inl ⟨rfl, rfl⟩)
      | succ m ihm =>
        intro i s hi hs
        have hin : i < n := by omega
        have hi64 : i < 64 := by omega
        refine Run.join7 (fun σ' : St => rdyB A dn i = true ∧ inTC σ'.t [(0, .ptr 0 0), (1, .v y), (5, .v (.int .i64 (i : Int))), (28, .v (.int .i64 (n : Int))), (29, .v (.int .i64 (i : Int)))] ∧
              ∃ m' vs', lk σ'.h 0 = some (ordB A n (.sl 3 1 0 (l.length + 1)) (dn ||| 1#64 <<< i)) ∧ lk σ'.h 3 = some (.row 3 1 m' vs') ∧ l.length + 1 ≤ m' ∧ vs'.take (l.length + 1) = encN (l ++ [i])) ?_
        apply Exists.intro
        apply And.intro
        · intro h7
          by_cases c : rdyB A dn i = true
          · rcases s with _ | ⟨m', vs⟩
            · obtain rfl : l = [] := hs
              refine RunF_sound tab_ok (hJ _) 100 [true] _ _ rfl ?_ ?_
              · simp; omega
              refine Run.callM (hJ _) rfl rfl rfl rfl rfl rfl ready_enters rfl (fun M w' hM _ => ready_ok A n _ dn _ i w' (ordB_at.1 (hM 0 _ rfl)) hi64) ?_
              refine RunF_sound tab_ok (hJ _) 100 [false] _ _ rfl ?_ ?_
              · simp [c]
              refine Run.drawOrd (hJ _) rfl [] trivial fun ol hol => ?_
              have h := hol
              rcases ord_fork' 5 7 rfl h with h | h
              · rcases ord_fork' 12 7 rfl h with h | h
                · rcases ord_fork' 12 5 rfl h with h | h
                  · refine draw_leaf [5, 12] (LikeS.add 12 5 (LikeS.add 12 7 (LikeS.add 5 7 (LikeS.refl _)))) h rfl rfl ?_
                    refine RunOF_sound tab_ok (hJ _) rfl rfl 200 [] _ _ rfl ?_ ?_
                    · simp [maxLen, fillL, repL, splice, Value.cells, Value.oneCell', okCell, inT]
                    refine RunO.done ?_
                    refine h7 _ ⟨c, ⟨⟨_, rfl, fun M => rfl⟩, ⟨_, rfl, fun M => rfl⟩, ⟨_, rfl, fun M => rfl⟩, ⟨_, rfl, fun M => rfl⟩, ⟨_, rfl, fun M => rfl⟩, trivial⟩, _, _, ?_, rfl, ?_, ?_⟩
                    · simp [lk, ordB, shl1_un]
                    · exact Nat.le_refl _
                    · rfl
                  · refine draw_leaf [5, 12] (LikeS.add 5 12 (LikeS.add 12 7 (LikeS.add 5 7 (LikeS.refl _)))) h rfl rfl ?_
                    refine RunOF_sound tab_ok (hJ _) rfl rfl 200 [] _ _ rfl ?_ ?_
                    · simp [maxLen, fillL, repL, splice, Value.cells, Value.oneCell', okCell, inT]
                    refine RunO.done ?_
                    refine h7 _ ⟨c, ⟨⟨_, rfl, fun M => rfl⟩, ⟨_, rfl, fun M => rfl⟩, ⟨_, rfl, fun M => rfl⟩, ⟨_, rfl, fun M => rfl⟩, ⟨_, rfl, fun M => rfl⟩, trivial⟩, _, _, ?_, rfl, ?_, ?_⟩
                    · simp [lk, ordB, shl1_un]
                    · exact Nat.le_refl _
                    · rfl
                · rcases ord_fork' 12 8 rfl h with h | h
                  · refine draw_leaf [5, 12] (LikeS.add 12 8 (LikeS.add 7 12 (LikeS.add 5 7 (LikeS.refl _)))) h rfl rfl ?_
                    refine RunOF_sound tab_ok (hJ _) rfl rfl 200 [] _ _ rfl ?_ ?_
                    · simp [maxLen, fillL, repL, splice, Value.cells, Value.oneCell', okCell, inT]
                    refine RunO.done ?_
                    refine h7 _ ⟨c, ⟨⟨_, rfl, fun M => rfl⟩, ⟨_, rfl, fun M => rfl⟩, ⟨_, rfl, fun M => rfl⟩, ⟨_, rfl, fun M => rfl⟩, ⟨_, rfl, fun M => rfl⟩, trivial⟩, _, _, ?_, rfl, ?_, ?_⟩
                    · simp [lk, ordB, shl1_un]
                    · exact Nat.le_refl _
                    · rfl
                  · refine draw_leaf [5, 12] (LikeS.add 8 12 (LikeS.add 7 12 (LikeS.add 5 7 (LikeS.refl _)))) h rfl rfl ?_
                    refine RunOF_sound tab_ok (hJ _) rfl rfl 200 [] _ _ rfl ?_ ?_
                    · simp [maxLen, fillL, repL, splice, Value.cells, Value.oneCell', okCell, inT]
                    refine RunO.done ?_
                    refine h7 _ ⟨c, ⟨⟨_, rfl, fun M => rfl⟩, ⟨_, rfl, fun M => rfl⟩, ⟨_, rfl, fun M => rfl⟩, ⟨_, rfl, fun M => rfl⟩, ⟨_, rfl, fun M => rfl⟩, trivial⟩, _, _, ?_, rfl, ?_, ?_⟩
                    · simp [lk, ordB, shl1_un]
                    · exact Nat.le_refl _
                    · rfl
              · rcases ord_fork' 12 5 rfl h with h | h
                · rcases ord_fork' 12 7 rfl h with h | h
                  · refine draw_leaf [5, 12] (LikeS.add 12 7 (LikeS.add 12 5 (LikeS.add 7 5 (LikeS.refl _)))) h rfl rfl ?_
                    refine RunOF_sound tab_ok (hJ _) rfl rfl 200 [] _ _ rfl ?_ ?_
                    · simp [maxLen, fillL, repL, splice, Value.cells, Value.oneCell', okCell, inT]
                    refine RunO.done ?_
                    refine h7 _ ⟨c, ⟨⟨_, rfl, fun M => rfl⟩, ⟨_, rfl, fun M => rfl⟩, ⟨_, rfl, fun M => rfl⟩, ⟨_, rfl, fun M => rfl⟩, ⟨_, rfl, fun M => rfl⟩, trivial⟩, _, _, ?_, rfl, ?_, ?_⟩
                    · simp [lk, ordB, shl1_un]
                    · exact Nat.le_refl _
                    · rfl
                  · refine draw_leaf [5, 12] (LikeS.add 7 12 (LikeS.add 12 5 (LikeS.add 7 5 (LikeS.refl _)))) h rfl rfl ?_
                    refine RunOF_sound tab_ok (hJ _) rfl rfl 200 [] _ _ rfl ?_ ?_
                    · simp [maxLen, fillL, repL, splice, Value.cells, Value.oneCell', okCell, inT]
                    refine RunO.done ?_
                    refine h7 _ ⟨c, ⟨⟨_, rfl, fun M => rfl⟩, ⟨_, rfl, fun M => rfl⟩, ⟨_, rfl, fun M => rfl⟩, ⟨_, rfl, fun M => rfl⟩, ⟨_, rfl, fun M => rfl⟩, trivial⟩, _, _, ?_, rfl, ?_, ?_⟩
                    · simp [lk, ordB, shl1_un]
                    · exact Nat.le_refl _
                    · rfl
                · rcases ord_fork' 12 8 rfl h with h | h
                  · refine draw_leaf [5, 12] (LikeS.add 12 8 (LikeS.add 5 12 (LikeS.add 7 5 (LikeS.refl _)))) h rfl rfl ?_
                    refine RunOF_sound tab_ok (hJ _) rfl rfl 200 [] _ _ rfl ?_ ?_
                    · simp [maxLen, fillL, repL, splice, Value.cells, Value.oneCell', okCell, inT]
                    refine RunO.done ?_
                    refine h7 _ ⟨c, ⟨⟨_, rfl, fun M => rfl⟩, ⟨_, rfl, fun M => rfl⟩, ⟨_, rfl, fun M => rfl⟩, ⟨_, rfl, fun M => rfl⟩, ⟨_, rfl, fun M => rfl⟩, trivial⟩, _, _, ?_, rfl, ?_, ?_⟩
                    · simp [lk, ordB, shl1_un]
                    · exact Nat.le_refl _
                    · rfl
                  · refine draw_leaf [5, 12] (LikeS.add 8 12 (LikeS.add 5 12 (LikeS.add 7 5 (LikeS.refl _)))) h rfl rfl ?_
                    refine RunOF_sound tab_ok (hJ _) rfl rfl 200 [] _ _ rfl ?_ ?_
                    · simp [maxLen, fillL, repL, splice, Value.cells, Value.oneCell', okCell, inT]
                    refine RunO.done ?_
                    refine h7 _ ⟨c, ⟨⟨_, rfl, fun M => rfl⟩, ⟨_, rfl, fun M => rfl⟩, ⟨_, rfl, fun M => rfl⟩, ⟨_, rfl, fun M => rfl⟩, ⟨_, rfl, fun M => rfl⟩, trivial⟩, _, _, ?_, rfl, ?_, ?_⟩
                    · simp [lk, ordB, shl1_un]
                    · exact Nat.le_refl _
                    · rfl
            · obtain ⟨hm7, hv7⟩ := hs
              refine RunF_sound tab_ok (hJ _) 100 [true] _ _ rfl ?_ ?_
              · simp; omega
              refine Run.callM (hJ _) rfl rfl rfl rfl rfl rfl ready_enters rfl (fun M w' hM _ => ready_ok A n _ dn _ i w' (ordB_at.1 (hM 0 _ rfl)) hi64) ?_
              refine RunF_sound tab_ok (hJ _) 100 [false] _ _ rfl ?_ ?_
              · simp [c]
              refine Run.drawOrd (hJ _) rfl [] trivial fun ol hol => ?_
              have h := hol
              rcases ord_fork' 5 7 rfl h with h | h
              · rcases ord_fork' 12 7 rfl h with h | h
                · rcases ord_fork' 12 5 rfl h with h | h
                  · refine draw_leaf [5, 12] (LikeS.add 12 5 (LikeS.add 12 7 (LikeS.add 5 7 (LikeS.refl _)))) h rfl rfl ?_
                    refine RunOF_sound tab_ok (hJ _) rfl rfl 200 [] _ _ rfl ?_ ?_
                    · simp [maxLen, fillL, repL, splice, Value.cells, Value.oneCell', okCell, inT]
                      omega
                    refine RunO.done ?_
                    refine h7 _ ⟨c, ⟨⟨_, rfl, fun M => rfl⟩, ⟨_, rfl, fun M => rfl⟩, ⟨_, rfl, fun M => rfl⟩, ⟨_, rfl, fun M => rfl⟩, ⟨_, rfl, fun M => rfl⟩, trivial⟩, _, _, ?_, rfl, ?_, ?_⟩
                    · simp [lk, ordB, shl1_un]
                    · exact Nat.le_refl _
                    · exact encN_app hv7 i
                  · refine draw_leaf [5, 12] (LikeS.add 5 12 (LikeS.add 12 7 (LikeS.add 5 7 (LikeS.refl _)))) h rfl rfl ?_
                    refine RunOF_sound tab_ok (hJ _) rfl rfl 200 [] _ _ rfl ?_ ?_
                    · simp [maxLen, fillL, repL, splice, Value.cells, Value.oneCell', okCell, inT]
                      omega
                    refine RunO.done ?_
                    refine h7 _ ⟨c, ⟨⟨_, rfl, fun M => rfl⟩, ⟨_, rfl, fun M => rfl⟩, ⟨_, rfl, fun M => rfl⟩, ⟨_, rfl, fun M => rfl⟩, ⟨_, rfl, fun M => rfl⟩, trivial⟩, _, _, ?_, rfl, ?_, ?_⟩
                    · simp [lk, ordB, shl1_un]
                    · exact Nat.le_refl _
                    · exact encN_app hv7 i
                · rcases ord_fork' 12 8 rfl h with h | h
                  · refine draw_leaf [5, 12] (LikeS.add 12 8 (LikeS.add 7 12 (LikeS.add 5 7 (LikeS.refl _)))) h rfl rfl ?_
                    refine RunOF_sound tab_ok (hJ _) rfl rfl 200 [] _ _ rfl ?_ ?_
                    · simp [maxLen, fillL, repL, splice, Value.cells, Value.oneCell', okCell, inT]
                      omega
                    refine RunO.done ?_
                    refine h7 _ ⟨c, ⟨⟨_, rfl, fun M => rfl⟩, ⟨_, rfl, fun M => rfl⟩, ⟨_, rfl, fun M => rfl⟩, ⟨_, rfl, fun M => rfl⟩, ⟨_, rfl, fun M => rfl⟩, trivial⟩, _, _, ?_, rfl, ?_, ?_⟩
                    · simp [lk, ordB, shl1_un]
                    · exact Nat.le_refl _
                    · exact encN_app hv7 i
                  · refine draw_leaf [5, 12] (LikeS.add 8 12 (LikeS.add 7 12 (LikeS.add 5 7 (LikeS.refl _)))) h rfl rfl ?_
                    refine RunOF_sound tab_ok (hJ _) rfl rfl 200 [] _ _ rfl ?_ ?_
                    · simp [maxLen, fillL, repL, splice, Value.cells, Value.oneCell', okCell, inT]
                      omega
                    refine RunO.done ?_
                    refine h7 _ ⟨c, ⟨⟨_, rfl, fun M => rfl⟩, ⟨_, rfl, fun M => rfl⟩, ⟨_, rfl, fun M => rfl⟩, ⟨_, rfl, fun M => rfl⟩, ⟨_, rfl, fun M => rfl⟩, trivial⟩, _, _, ?_, rfl, ?_, ?_⟩
                    · simp [lk, ordB, shl1_un]
                    · exact Nat.le_refl _
                    · exact encN_app hv7 i
              · rcases ord_fork' 12 5 rfl h with h | h
                · rcases ord_fork' 12 7 rfl h with h | h
                  · refine draw_leaf [5, 12] (LikeS.add 12 7 (LikeS.add 12 5 (LikeS.add 7 5 (LikeS.refl _)))) h rfl rfl ?_
                    refine RunOF_sound tab_ok (hJ _) rfl rfl 200 [] _ _ rfl ?_ ?_
                    · simp [maxLen, fillL, repL, splice, Value.cells, Value.oneCell', okCell, inT]
                      omega
                    refine RunO.done ?_
                    refine h7 _ ⟨c, ⟨⟨_, rfl, fun M => rfl⟩, ⟨_, rfl, fun M => rfl⟩, ⟨_, rfl, fun M => rfl⟩, ⟨_, rfl, fun M => rfl⟩, ⟨_, rfl, fun M => rfl⟩, trivial⟩, _, _, ?_, rfl, ?_, ?_⟩
                    · simp [lk, ordB, shl1_un]
                    · exact Nat.le_refl _
                    · exact encN_app hv7 i
                  · refine draw_leaf [5, 12] (LikeS.add 7 12 (LikeS.add 12 5 (LikeS.add 7 5 (LikeS.refl _)))) h rfl rfl ?_
                    refine RunOF_sound tab_ok (hJ _) rfl rfl 200 [] _ _ rfl ?_ ?_
                    · simp [maxLen, fillL, repL, splice, Value.cells, Value.oneCell', okCell, inT]
                      omega
                    refine RunO.done ?_
                    refine h7 _ ⟨c, ⟨⟨_, rfl, fun M => rfl⟩, ⟨_, rfl, fun M => rfl⟩, ⟨_, rfl, fun M => rfl⟩, ⟨_, rfl, fun M => rfl⟩, ⟨_, rfl, fun M => rfl⟩, trivial⟩, _, _, ?_, rfl, ?_, ?_⟩
                    · simp [lk, ordB, shl1_un]
                    · exact Nat.le_refl _
                    · exact encN_app hv7 i
                · rcases ord_fork' 12 8 rfl h with h | h
                  · refine draw_leaf [5, 12] (LikeS.add 12 8 (LikeS.add 5 12 (LikeS.add 7 5 (LikeS.refl _)))) h rfl rfl ?_
                    refine RunOF_sound tab_ok (hJ _) rfl rfl 200 [] _ _ rfl ?_ ?_
                    · simp [maxLen, fillL, repL, splice, Value.cells, Value.oneCell', okCell, inT]
                      omega
                    refine RunO.done ?_
                    refine h7 _ ⟨c, ⟨⟨_, rfl, fun M => rfl⟩, ⟨_, rfl, fun M => rfl⟩, ⟨_, rfl, fun M => rfl⟩, ⟨_, rfl, fun M => rfl⟩, ⟨_, rfl, fun M => rfl⟩, trivial⟩, _, _, ?_, rfl, ?_, ?_⟩
                    · simp [lk, ordB, shl1_un]
                    · exact Nat.le_refl _
                    · exact encN_app hv7 i
                  · refine draw_leaf [5, 12] (LikeS.add 8 12 (LikeS.add 5 12 (LikeS.add 7 5 (LikeS.refl _)))) h rfl rfl ?_
                    refine RunOF_sound tab_ok (hJ _) rfl rfl 200 [] _ _ rfl ?_ ?_
                    · simp [maxLen, fillL, repL, splice, Value.cells, Value.oneCell', okCell, inT]
                      omega
                    refine RunO.done ?_
                    refine h7 _ ⟨c, ⟨⟨_, rfl, fun M => rfl⟩, ⟨_, rfl, fun M => rfl⟩, ⟨_, rfl, fun M => rfl⟩, ⟨_, rfl, fun M => rfl⟩, ⟨_, rfl, fun M => rfl⟩, trivial⟩, _, _, ?_, rfl, ?_, ?_⟩
                    · simp [lk, ordB, shl1_un]
                    · exact Nat.le_refl _
                    · exact encN_app hv7 i
          · have e0 : extP A n d l dn (i + 1) = extP A n d l dn i := by rw [extP_succ, extF, if_neg c, List.append_nil]
            have hn7 := ihm (i + 1) s (by omega) hs
            rw [e0] at hn7
            rcases s with _ | ⟨m', vs⟩
            · refine RunF_sound tab_ok (hJ _) 100 [true] _ _ rfl ?_ ?_
              · simp; omega
              refine Run.callM (hJ _) rfl rfl rfl rfl rfl rfl ready_enters rfl (fun M w' hM _ => ready_ok A n _ dn _ i w' (ordB_at.1 (hM 0 _ rfl)) hi64) ?_
              refine RunF_sound tab_ok (hJ _) 100 [true] _ _ rfl ?_ ?_
              · simp [c]
              exact Run.to hn7 ⟨rfl, rfl, rfl, i64_eq (wrap_succ (by omega)), trivial⟩ ⟨rfl, trivial⟩
            · refine RunF_sound tab_ok (hJ _) 100 [true] _ _ rfl ?_ ?_
              · simp; omega
              refine Run.callM (hJ _) rfl rfl rfl rfl rfl rfl ready_enters rfl (fun M w' hM _ => ready_ok A n _ dn _ i w' (ordB_at.1 (hM 0 _ rfl)) hi64) ?_
              refine RunF_sound tab_ok (hJ _) 100 [true] _ _ rfl ?_ ?_
              · simp [c]
              exact Run.to hn7 ⟨rfl, rfl, rfl, i64_eq (wrap_succ (by omega)), trivial⟩ ⟨rfl, rfl, trivial⟩
        · rintro σ' ⟨c, ht, m', vs', hh0, hh3, hm', hv'⟩
          have e1 : (l ++ [i]).length = l.length + 1 := by simp
          have hl0 : l ++ [i] ≠ [] := by simp
          have e2 : extP A n d l dn (i + 1) = extP A n d l dn i ++ extL A n d (l ++ [i]) (dn ||| 1#64 <<< i) := by rw [extP_succ, extF, if_pos c]
          rw [← e1] at hh0 hm' hv'
          refine Run.toC (t' := [(0, .ptr 0 0), (1, .v y), (5, .v (.int .i64 (i : Int))), (28, .v (.int .i64 (n : Int))), (29, .v (.int .i64 (i : Int)))]) (h' := [(0, ordB A n (.sl 3 1 0 (l ++ [i]).length) (dn ||| 1#64 <<< i)), (3, .row 3 1 m' vs')]) (n' := 4) ?_ ht ⟨hh0, hh3, trivial⟩
          refine RunF_sound tab_ok (hJ _) 100 [] _ _ rfl ?_ ?_
          · simp
          refine Run.callK (xs := [.ptr 0 0, .v y]) (caps := []) rfl rfl rfl rfl rfl rfl orderOn_enters rfl fun M fp1 a w1 hR => ?_
          obtain ⟨hbo, br1, hst1, hg1, hfo1, hfr1⟩ := on_leave (A := A) (n := n) (l := l ++ [i]) (dn := dn ||| 1#64 <<< i) hR rfl (.inr ⟨3, m', vs', by decide, rfl, rfl, hm', hv'⟩)
          have ea : concL M ([.ptr 0 0, .v y] ++ []) = [.pointer (some ⟨bo, 0, none⟩), y] := by simp [concL, conc, hbo]
          rw [ea]
          refine Calls.mono' (ih (l ++ [i]) (dn ||| 1#64 <<< i) bo br1 w1 fp1 J Js y (pre ++ extP A n d l dn i) (by rw [e1]; omega) hst1 (fun b hb => (hg1.2 b hb).1) hfo1 hfr1 hJ hJs hR.outer ?_) ?_
          · intro q x h1 h2
            refine (hy q x ((List.prefix_append _ _).trans h1) (h2.trans ?_)).rebase hg1
            rw [List.append_assoc, ← e2]
            exact (List.prefix_append_right_inj _).2 (extP_prefix A n d l dn (by omega))
          rintro e w' ⟨v, rfl, fp', br', hst', hg', hfo', hfr', hv⟩
          refine ⟨v, rfl, ?_⟩
          obtain ⟨bv, X', rfl, hXl, hX', hXc⟩ : ∃ (bv : Bool) (X' : Res), v = .bool bv ∧ Local X' ∧ X' w' fp' ∧ (bv = true ∧ X' = J (pre ++ extP A n d l dn (i + 1)) ∨ bv = false ∧ ∃ q, q <+: pre ++ extP A n d l dn n ∧ X' = Js q) := by
            rcases hv with ⟨rfl, h1⟩ | ⟨rfl, q, h1, h2⟩
            · refine ⟨true, _, rfl, hJ _, h1, .inl ⟨rfl, ?_⟩⟩
              rw [e2, List.append_assoc]
            · refine ⟨false, Js q, rfl, hJs q, h2, .inr ⟨rfl, q, h1.trans ?_, rfl⟩⟩
              rw [List.append_assoc, ← e2]
              exact (List.prefix_append_right_inj _).2 (extP_prefix A n d l dn (by omega))
          obtain ⟨M', m2, vs2, hR', hm2, hv2⟩ := on_back hR hbo hg1 hst' hg' hfo' hfr' hl0 hX' rfl (Nat.succ_pos 3)
          refine ⟨X', M', fp', _, .v (.bool bv), rfl, hR', ?_⟩
          refine RunF_sound tab_ok hXl 100 [] _ _ rfl ?_ ?_
          · simp
          have hw : IntKind.i64.wrap (l.length : Int) = (l.length : Int) := by rw [wrap_i64] <;> omega
          have hl2 : l.length ≤ m2 := by omega
          have hbo2 : (dn ||| 1#64 <<< i) &&& ~~~(1#64 <<< i) = dn := bit_off (rdyB_off c)
          refine Run.join7 (fun σ' : St => lk σ'.t 6 = some (.v (.bool bv)) ∧ inTC σ'.t [(0, .ptr 0 0), (1, .v y), (5, .v (.int .i64 (i : Int))), (28, .v (.int .i64 (n : Int))), (29, .v (.int .i64 (i : Int)))] ∧
              lk σ'.h 0 = some (ordB A n (.sl 4 1 0 l.length) dn) ∧ lk σ'.h 4 = some (.row 3 1 m2 vs2)) ?_
          apply Exists.intro
          apply And.intro
          · intro h9
            refine Run.drawOrd hXl rfl [(4, .row 3 1 m2 vs2)] ⟨rfl, trivial⟩ fun ol hol => ?_
            have h := hol
            rcases ord_fork' 5 9 rfl h with h | h
            · rcases ord_fork' 16 5 rfl h with h | h
              · refine draw_leaf [5, 9, 16] (LikeS.add 16 5 (LikeS.add 5 9 (LikeS.refl _))) h rfl rfl ?_
                refine RunOF_sound tab_ok hXl rfl rfl 200 [] _ _ rfl ?_ ?_
                · simp [inT, lk, hw, okCell, Value.oneCell', hl2]
                refine RunO.done ?_
                refine h9 _ ⟨rfl, ⟨⟨_, rfl, fun M => rfl⟩, ⟨_, rfl, fun M => rfl⟩, ⟨_, rfl, fun M => rfl⟩, ⟨_, rfl, fun M => rfl⟩, ⟨_, rfl, fun M => rfl⟩, trivial⟩, ?_, rfl⟩
                · simp [lk, ordB, hw, shl1_un, hbo2]
              · rcases ord_fork' 16 9 rfl h with h | h
                · refine draw_leaf [5, 9, 16] (LikeS.add 16 9 (LikeS.add 5 16 (LikeS.add 5 9 (LikeS.refl _)))) h rfl rfl ?_
                  refine RunOF_sound tab_ok hXl rfl rfl 200 [] _ _ rfl ?_ ?_
                  · simp [inT, lk, hw, okCell, Value.oneCell', hl2]
                  refine RunO.done ?_
                  refine h9 _ ⟨rfl, ⟨⟨_, rfl, fun M => rfl⟩, ⟨_, rfl, fun M => rfl⟩, ⟨_, rfl, fun M => rfl⟩, ⟨_, rfl, fun M => rfl⟩, ⟨_, rfl, fun M => rfl⟩, trivial⟩, ?_, rfl⟩
                  · simp [lk, ordB, hw, shl1_un, hbo2]
                · refine draw_leaf [5, 9, 16] (LikeS.add 9 16 (LikeS.add 5 16 (LikeS.add 5 9 (LikeS.refl _)))) h rfl rfl ?_
                  refine RunOF_sound tab_ok hXl rfl rfl 200 [] _ _ rfl ?_ ?_
                  · simp [inT, lk, hw, okCell, Value.oneCell', hl2]
                  refine RunO.done ?_
                  refine h9 _ ⟨rfl, ⟨⟨_, rfl, fun M => rfl⟩, ⟨_, rfl, fun M => rfl⟩, ⟨_, rfl, fun M => rfl⟩, ⟨_, rfl, fun M => rfl⟩, ⟨_, rfl, fun M => rfl⟩, trivial⟩, ?_, rfl⟩
                  · simp [lk, ordB, hw, shl1_un, hbo2]
            · rcases ord_fork' 16 9 rfl h with h | h
              · refine draw_leaf [5, 9, 16] (LikeS.add 16 9 (LikeS.add 9 5 (LikeS.refl _))) h rfl rfl ?_
                refine RunOF_sound tab_ok hXl rfl rfl 200 [] _ _ rfl ?_ ?_
                · simp [inT, lk, hw, okCell, Value.oneCell', hl2]
                refine RunO.done ?_
                refine h9 _ ⟨rfl, ⟨⟨_, rfl, fun M => rfl⟩, ⟨_, rfl, fun M => rfl⟩, ⟨_, rfl, fun M => rfl⟩, ⟨_, rfl, fun M => rfl⟩, ⟨_, rfl, fun M => rfl⟩, trivial⟩, ?_, rfl⟩
                · simp [lk, ordB, hw, shl1_un, hbo2]
              · rcases ord_fork' 16 5 rfl h with h | h
                · refine draw_leaf [5, 9, 16] (LikeS.add 16 5 (LikeS.add 9 16 (LikeS.add 9 5 (LikeS.refl _)))) h rfl rfl ?_
                  refine RunOF_sound tab_ok hXl rfl rfl 200 [] _ _ rfl ?_ ?_
                  · simp [inT, lk, hw, okCell, Value.oneCell', hl2]
                  refine RunO.done ?_
                  refine h9 _ ⟨rfl, ⟨⟨_, rfl, fun M => rfl⟩, ⟨_, rfl, fun M => rfl⟩, ⟨_, rfl, fun M => rfl⟩, ⟨_, rfl, fun M => rfl⟩, ⟨_, rfl, fun M => rfl⟩, trivial⟩, ?_, rfl⟩
                  · simp [lk, ordB, hw, shl1_un, hbo2]
                · refine draw_leaf [5, 9, 16] (LikeS.add 5 16 (LikeS.add 9 16 (LikeS.add 9 5 (LikeS.refl _)))) h rfl rfl ?_
                  refine RunOF_sound tab_ok hXl rfl rfl 200 [] _ _ rfl ?_ ?_
                  · simp [inT, lk, hw, okCell, Value.oneCell', hl2]
                  refine RunO.done ?_
                  refine h9 _ ⟨rfl, ⟨⟨_, rfl, fun M => rfl⟩, ⟨_, rfl, fun M => rfl⟩, ⟨_, rfl, fun M => rfl⟩, ⟨_, rfl, fun M => rfl⟩, ⟨_, rfl, fun M => rfl⟩, trivial⟩, ?_, rfl⟩
                  · simp [lk, ordB, hw, shl1_un, hbo2]
          · rintro σ' ⟨h6, ht, hh0, hh4⟩
            refine Run.toC (t' := [(0, .ptr 0 0), (1, .v y), (6, .v (.bool bv)), (28, .v (.int .i64 (n : Int))), (29, .v (.int .i64 (i : Int)))]) (h' := [(0, ordB A n (.sl 4 1 0 l.length) dn), (4, .row 3 1 m2 vs2)]) (n' := 5) ?_ ⟨ht.1, ht.2.1, inTC_same h6, ht.2.2.2.1, ht.2.2.2.2.1, trivial⟩ ⟨hh0, hh4, trivial⟩
            rcases hXc with ⟨rfl, rfl⟩ | ⟨rfl, q, hq, rfl⟩
            · refine RunF_sound tab_ok hXl 100 [false] _ _ rfl ?_ ?_
              · simp
              exact Run.toR [(1, 4)] (ihm (i + 1) (some (m2, vs2)) (by omega) ⟨hl2, encN_back hv2⟩) ⟨rfl, rfl, rfl, i64_eq (wrap_succ (by omega)), trivial⟩ ⟨rfl, rfl, trivial⟩ rfl
            · refine RunF_sound tab_ok hXl 100 [true] _ _ rfl ?_ ?_
              · simp
              refine Run.retF tab_ok Tryd.func110 rfl trivial fun M fp' a w' hr => ?_
              exact hout _ M fp' _ a w' _ hr rfl (.inr ⟨4, m2, vs2, by decide, rfl, rfl, hl2, encN_back hv2⟩) (.inr ⟨⟨q, hq, rfl⟩, rfl⟩)
  have hk3 := hk2 n 0 s (by omega) hs
  rw [show extP A n d l dn 0 = [] from rfl, List.append_nil] at hk3
  exact hk1 s hs hk3

theorem orderOn_ok (A : Rl) (n : Nat) (hn : n ≤ 64) : ∀ d, OnOK A n d
  | 0 => on_zero A n hn
  | d + 1 => on_succ A n hn d (orderOn_ok A n hn d)

/-- What must stand ahead of each number; how many there are. -/
noncomputable def aheadL (r : Rl) : Rl := invF (rightL r).n (edgesL (rightL r))

noncomputable def sizeL (r : Rl) : Nat := (rightL r).n.toNat

theorem sizeL_le (r : Rl) : sizeL r ≤ 64 := by have := rightL_n r; unfold sizeL; omega

theorem ord_fill (A : Rl) (m : Int) (pl : Nat → Option (Nat × Nat)) (h0 : pl 0 = some (0, 64)) (h1 : pl 1 = some (64, 1)) :
    (fillL pl (Value.agg z146.toArray).cells.toList [(0, .agg (rowV A).toArray), (1, .int .i64 m)]).1 ∧
    (fillL pl (Value.agg z146.toArray).cells.toList [(0, .agg (rowV A).toArray), (1, .int .i64 m)]).2 = (rowV A ++ [.int .i64 m]) ++ [.slice none 0 0, .int .u64 0] := by
  have hz : (Value.agg z146.toArray).cells.toList = List.replicate 64 (.int .u64 0) ++ [.int .i64 0, .slice none 0 0, .int .u64 0] := rfl
  rw [hz]
  constructor
  · simp only [fillL, h0, h1]
    simp [Value.cells, splice]
  · simp only [fillL, h0, h1]
    have hr : (rowV A).length = 64 := rowV_length A
    generalize rowV A = L at hr
    simp [Value.cells, splice, hr]
    rw [show 65 = L.length + 1 by omega, List.drop_append]
    simp

theorem lk_one {α : Type} {j i : Nat} {x y : α} (h : lk [(j, x)] i = some y) : i = j := by
  simp only [lk] at h
  split at h
  · rename_i he; exact Nat.eq_of_beq_eq_true he
  · cases h

theorem newOrder_ok (r : Rl) (w : World) (hT : TabAt w) (h0 : 0 < w.heap.size) : HandsZ Tryd.prog 109 [encRel r] w (.ptr 0 0) [(0, ordB (aheadL r) (sizeL r) (.v (.slice none 0 0)) 0#64)] := by
  refine HandsZ.of_run Tryd.func109 rfl (by show 1 ≤ 11; decide) ?_
  refine RunF_sound tab_ok noX_local 100 [] _ _ rfl ?_ ?_
  · simp
  have hn := rightL_n r
  refine Run.drawA noX_local rfl [6] [(0, .cells 34 [.vals 65 (relV r)])] rfl rfl ⟨rfl, trivial⟩ ?_
  refine RunOF_sound tab_ok noX_local rfl rfl 100 [] _ _ rfl ?_ ?_
  · simp
  refine RunO.callFn (r := encRel (aheadL r)) noX_local rfl rfl rfl rfl rfl rfl rfl rfl inverse_enters rfl (fun w' hA => inverse_ok r w' (hT.agree hA (fun f => f)) (Nat.lt_of_lt_of_le h0 hA.size)) ?_
  refine RunOF_sound tab_ok noX_local rfl rfl 100 [] _ _ rfl ?_ ?_
  · simp
  refine RunO.callFn (r := encRel (rightL r)) noX_local rfl rfl rfl rfl rfl rfl rfl rfl right_enters rfl (fun w' _ => right_ok r w') ?_
  generalize hA : aheadL r = A
  have hs : ((sizeL r : Nat) : Int) = (rightL r).n := by unfold sizeL; omega
  generalize sizeL r = n at hs
  generalize rightL r = R at hs hn
  have e1 : List.take 64 (relV A).tail = rowV A := by rw [← List.drop_one, relV_drop]
  refine RunOF_sound tab_ok noX_local rfl rfl 100 [] _ _ rfl ?_ ?_
  · simp [inT, lk, e1]
    refine ⟨⟨⟨by decide, by decide⟩, (ord_fill A R.n _ rfl rfl).1⟩, ?_⟩
    rw [(ord_fill A R.n _ rfl rfl).2]; simp
  refine RunO.done ?_
  refine RunF_sound tab_ok noX_local 100 [] _ _ rfl ?_ ?_
  · simp
  refine Run.ret tab_ok Tryd.func109 rfl trivial fun M fp a w' hr => ?_
  have hb := hr.heap 1 _ rfl
  refine ⟨hr.agree, fun _ => M 1, rfl, fun id B hB => ?_, fun id id' B B' hB hB' _ => ?_⟩
  · simp only [lk] at hB
    split at hB
    · cases hB
      refine ⟨ordB_at.2 ⟨?_⟩, Nat.le_of_not_lt fun hlt => (hr.own 1 _ rfl hlt).elim⟩
      have h1 := hb.1
      have e2 : List.take 64 (List.drop 1 (relV A).toArray.toList) = rowV A := e1
      simp only [concSegs, List.append_nil, e2] at h1
      rw [(ord_fill A _ _ rfl rfl).2, intAt_0, ← hs] at h1
      exact h1
    · cases hB
  · rw [lk_one hB, lk_one hB']

theorem newOrder_enters : Enters Tryd.prog 109 := enters_mk Tryd.func109 (by decide) rfl

open Classical in
/-- All orders of a relation, as they are gone through. -/
noncomputable def ordersL (r : Rl) : List (List Nat) := if irB (clos (rightL r)) = true then extL (aheadL r) (sizeL r) (sizeL r) [] 0#64 else []

theorem ext_relAt {w : World} {b : Nat} {r : Rl} (h : RelAt w b r) : extCells w ⟨b, 0, none⟩ 0 65 = relV r := by
  apply List.ext_getElem?
  intro q
  rcases Nat.lt_or_ge q 65 with hq | hq
  · have h1 : q < (extCells w ⟨b, 0, none⟩ 0 65).length := by rw [extCells_length]; exact hq
    have h2 : q < (relV r).length := by rw [relV_length]; exact hq
    have e2 := List.getElem?_eq_getElem h2
    have hc := h q _ e2
    have e1 := List.getElem?_eq_getElem h1
    have ea : (⟨b, 0, none⟩ : Addr).add (0 + q) = ⟨b, q, none⟩ := by rw [add_lit']; simp
    have := extCells_get w ⟨b, 0, none⟩ 65 0 q _ e1 (by rw [ea, hc]; rfl)
    rw [ea, hc] at this
    rw [e1, e2, Option.some.inj this]
  · rw [List.getElem?_eq_none (by rw [extCells_length]; exact hq), List.getElem?_eq_none (by rw [relV_length]; exact hq)]

theorem extends_iter (r : Rl) (b : Nat) (w0 : World) (hb : RelAt w0 b r) (hT : TabAt w0) (h00 : 0 < w0.heap.size) :
    IterH Tryd.prog 108 [.pointer (some ⟨b, 0, none⟩)] (edgesK b) w0 (ordersL r) zI hI := by
  refine IterH.of_run Tryd.func108 rfl (by show 2 ≤ 9; decide) ?_
  intro y J Js w fp hJ hJs hy hag hfp R hR
  have hbw : RelAt w b r := hb.agree hag (fun h => h (.inr rfl))
  have hTw : TabAt w := hT.agree hag (fun h => h (.inl rfl))
  have h0w : 0 < w.heap.size := Nat.lt_of_lt_of_le h00 hag.size
  have hf0 : ¬ fp 0 := fun h => hfp 0 h (.inl rfl)
  have hfb : ¬ fp b := fun h => hfp b h (.inr rfl)
  have hext := ext_relAt hbw
  have hres : (Tryd.f108).results = #[] := rfl
  refine RunF_sound tab_ok (hJ []) 100 [] _ _ rfl ?_ ?_
  · simp only [fnC_w0, fnC_S0]
    refine ⟨⟨fun j hj => ?_, hfb⟩, trivial⟩
    have e2 := List.getElem?_eq_getElem (l := relV r) (i := j) (by rw [relV_length]; exact hj)
    have := hbw j _ e2
    rw [add_lit', Nat.zero_add, this]; rfl
  simp only [fnC_w0, hext]
  refine Run.callFn (hJ []) rfl rfl rfl rfl rfl rfl rfl acyclic_enters rfl (fun w' _ => acyclic_ok r w') ?_
  by_cases c : irB (clos (rightL r)) = true
  · have hxs : ordersL r = extL (aheadL r) (sizeL r) (sizeL r) [] 0#64 := by rw [ordersL, if_pos c]
    rw [hxs] at hy hR
    refine RunF_sound tab_ok (hJ []) 100 [true] _ _ rfl ?_ ?_
    · simp only [fnC_w0, fnC_S0, c]
      refine ⟨trivial, ⟨⟨fun j hj => ?_, hfb⟩, trivial⟩⟩
      have e2 := List.getElem?_eq_getElem (l := relV r) (i := j) (by rw [relV_length]; exact hj)
      have := hbw j _ e2
      rw [add_lit', Nat.zero_add, this]; rfl
    simp only [fnC_w0, hext]
    refine Run.callH (hJ []) (.ptr 0 0) [(0, ordB (aheadL r) (sizeL r) (.v (.slice none 0 0)) 0#64)] 1 rfl rfl rfl rfl rfl rfl newOrder_enters rfl rfl rfl rfl rfl (fun M w' _ hA => newOrder_ok r w' (hTw.agree hA hf0) (Nat.lt_of_lt_of_le h0w hA.size)) ?_
    refine RunF_sound tab_ok (hJ []) 100 [] _ _ rfl ?_ ?_
    · simp
    refine Run.callK (xs := [.ptr 0 0, .v y]) (caps := []) rfl rfl rfl rfl rfl rfl orderOn_enters rfl fun M fp1 a w1 hRl => ?_
    have h0B := hRl.heap 0 _ rfl
    have ea : concL M ([.ptr 0 0, .v y] ++ []) = [.pointer (some ⟨(M 0).1, 0, none⟩), y] := by simp [concL, conc]
    rw [ea]
    have hst : OnSt w1 (M 0).1 none (aheadL r) (sizeL r) [] 0#64 := ⟨⟨_, ordB_at.1 h0B, rfl, rfl⟩, by simp⟩
    have hg : Grown fp w (onF fp1 (M 0).1 none) w1 := by
      refine ⟨hRl.agree, ?_⟩
      rintro b' (hb' | rfl | hb')
      · exact hRl.fpok b' hb'
      · exact ⟨h0B.lt, fun h => hRl.own 0 _ rfl h⟩
      · cases hb'
    refine Calls.mono' (orderOn_ok (aheadL r) (sizeL r) (sizeL_le r) (sizeL r) [] 0#64 (M 0).1 none w1 fp1 J Js y [] (by simp) hst (fun b' hb' => (hg.2 b' hb').1) (hRl.apart 0 _ rfl) (fun b' h => by cases h) hJ hJs hRl.outer ?_) ?_
    · intro q x _ h2
      exact (hy q x (by simpa using h2)).rebase hg
    rintro e w' ⟨v, rfl, fp', br', hst', hg', hfo', hfr', hv⟩
    refine ⟨v, rfl, ?_⟩
    have hgf := hg.trans hg'
    have hgf' : Grown fp w fp' w' := ⟨hgf.1, fun b hb => hgf.2 b (.inl hb)⟩
    obtain ⟨X', hXl, hX', hXc⟩ : ∃ X' : Res, Local X' ∧ X' w' fp' ∧ ∀ w2 fp2, X' w2 fp2 → ∃ pre, pre = extL (aheadL r) (sizeL r) (sizeL r) [] 0#64 ∧ J pre w2 fp2 ∨ pre <+: extL (aheadL r) (sizeL r) (sizeL r) [] 0#64 ∧ Js pre w2 fp2 := by
      rcases hv with ⟨rfl, h1⟩ | ⟨rfl, q, h1, h2⟩
      · exact ⟨_, hJ _, h1, fun w2 fp2 h => ⟨_, .inl ⟨by simp, h⟩⟩⟩
      · exact ⟨Js q, hJs q, h2, fun w2 fp2 h => ⟨q, .inr ⟨by simpa using h1, h⟩⟩⟩
    refine ⟨X', M, fp', ⟨[], [], 1⟩, .v v, by simp [conc], ?_, ?_⟩
    · refine { heap := fun _ _ h => (by cases h), inj := fun _ _ _ _ h => (by cases h), own := fun _ _ h => (by cases h), apart := fun _ _ h => (by cases h), agree := hgf'.1, outer := hX', fpok := hgf'.2, size := hRl.size, frozen := hRl.frozen, tmps := fun _ _ h => (by cases h), defers := hRl.defers }
    · refine RunF_sound tab_ok hXl 100 [] _ _ rfl ?_ ?_
      · simp
      refine Run.finI Tryd.func108 hres fun v w2 fp2 hg2 hX2 => ?_
      obtain ⟨q, hq⟩ := hXc w2 fp2 hX2
      exact hR v w2 fp2 q hg2 hq
  · have hxs : ordersL r = [] := by rw [ordersL, if_neg c]
    rw [hxs] at hR
    refine RunF_sound tab_ok (hJ []) 100 [false] _ _ rfl ?_ ?_
    · simp [c]
    refine Run.finI Tryd.func108 hres fun v w' fp' hg hX => hR v w' fp' [] hg (.inl ⟨rfl, hX⟩)

theorem extendsIt_enters : Enters Tryd.prog 108 := enters_mk Tryd.func108 (by decide) rfl

def extendsF (b : Nat) : Value := .func (.func 108) #[] #[.pointer (some ⟨b, 0, none⟩)]

theorem extends_ok (r : Rl) (w : World) : Makes Tryd.prog 83 [encRel r] w (fun v w' => ∃ b, v = extendsF b ∧ w.heap.size ≤ b ∧ RelAt w' b r) := by
  refine Makes.of_run Tryd.func83 rfl (by show 1 ≤ 4; decide) ?_
  refine RunF_sound tab_ok noX_local 100 [] _ _ rfl ?_ ?_
  · simp
  refine Run.ret tab_ok Tryd.func83 rfl trivial fun M fp a w' hr => ⟨hr.agree, (M 0).1, rfl, ?_, ?_⟩
  · rcases Nat.lt_or_ge (M 0).1 w.heap.size with h | h
    · exact (hr.own 0 _ rfl h).elim
    · exact h
  · intro q x hq
    have hb : BlkAt M w' 0 (.cells 34 [.vals 65 (relV r)]) := hr.heap 0 _ rfl
    have := vals_cells hb (off := 0) (s0 := 0) rfl q x hq
    rwa [Nat.zero_add] at this

theorem extends_enters : Enters Tryd.prog 83 := enters_mk Tryd.func83 (by decide) rfl

/-- The first order, if there is one. -/
noncomputable def extendL (r : Rl) : Option (List Nat) := (ordersL r).head?

def exZ : Option (List Nat) → AV
  | none => .tup [.v (.slice none 0 0), .tt false]
  | some l => .tup [.sl 0 1 0 l.length, .tt true]

def exH : Option (List Nat) → List (Nat × Blk)
  | none => []
  | some l => [(0, .row 3 1 l.length (encN l))]

/-- What lies in Extend's blocks. -/
def exB (r : Rl) (x : Option (List Nat)) : List (Nat × Blk) :=
  match x with
  | none => [(2, .cells 4 [.one (.tt false)]), (1, .cells 24 [.one (.v (.slice none 0 0))]), (0, .cells 34 [.vals 65 (relV r)])]
  | some l => [(2, .cells 4 [.one (.tt true)]), (1, .cells 24 [.one (.sl 50 1 0 l.length)]), (0, .cells 34 [.vals 65 (relV r)]), (50, .row 3 1 l.length (encN l))]

theorem extend_ok (r : Rl) (w : World) (hT : TabAt w) (h0 : 0 < w.heap.size) : HandsZ Tryd.prog 48 [encRel r] w (exZ (extendL r)) (exH (extendL r)) := by
  refine HandsZ.of_run Tryd.func48 rfl (by show 1 ≤ 12; decide) ?_
  refine RunF_sound tab_ok noX_local 100 [] _ _ rfl ?_ ?_
  · simp [okCell, ofConst, Value.oneCell']
  refine Run.callFn noX_local rfl rfl rfl rfl rfl rfl rfl acyclic_enters rfl (fun w' _ => acyclic_ok r w') ?_
  by_cases c : irB (clos (rightL r)) = true
  · refine RunF_sound tab_ok noX_local 100 [false] _ _ rfl ?_ ?_
    · simp [c]
    refine Run.callR noX_local rfl rfl rfl rfl rfl rfl extends_enters rfl (fun M w' _ _ => extends_ok r w') ?_
    rintro v w2 w1 S1 hag hag2 ⟨bb, rfl, hbl, hRel⟩ hS1
    have hB1 := (Based.refl w).call hag hag2 hS1
    have hbw1 : bb < w1.heap.size := World.block_lt_of_cell? w1 _ (hRel 0 _ rfl)
    have hS1b : ¬ S1 bb := hS1.new bb hbl
    have hS10 : ¬ S1 0 := fun h => by have := hB1.new 0 h; omega
    have hw1 : 0 < w1.heap.size := by have := hB1.agree.size; omega
    have hit := extends_iter r bb w1 hRel (hT.agree hB1.agree (fun f => f)) hw1
    have hex : extendL r = (ordersL r).head? := rfl
    generalize hE : extendL r = E at *
    generalize ordersL r = xs at *
    refine ⟨.fn 108 [.v (.pointer (some ⟨bb, 0, none⟩))], fun M => rfl, ?_⟩
    refine RunF_sound tab_ok noX_local 100 [] _ _ rfl ?_ ?_
    · simp
    refine Run.rangeFnH noX_local rfl rfl (fun M => rfl) extendsIt_enters 4 [(3, .ptr 2 0), (2, .ptr 1 0)] ⟨rfl, rfl, trivial⟩ rfl rfl rfl hit
      (fun k hk => by rcases hk with rfl | rfl; exact ⟨hw1, hS10⟩; exact ⟨hbw1, hS1b⟩)
      (fun pre h => pre = [] ∧ h = exB r none) (fun pre c h => ∃ x, pre = [x] ∧ c = .ret ∧ h = exB r (some x)) 3 51 (by decide) rfl (fun pre h hI => by rw [hI.2]; rfl) (fun x _ => rfl) (fun x _ => rfl) (exB r none) ⟨rfl, rfl⟩ ⟨rfl, rfl, rfl, trivial⟩ ?_ ?_ ?_
    · rintro D l a0 rc wy fpy pre x h hI hpx ⟨rfl, rfl⟩
      refine RunF_sound tab_ok (roundX_local hI.loc l rc .ready) 100 [] _ _ rfl ?_ ?_
      · simp
      refine Run.beginRound hI.loc hI.lw ?_
      refine RunF_sound tab_ok (roundX_local hI.loc l rc .busy) 100 [] _ _ rfl ?_ ?_
      · simp [okCell, ofConst]
      exact Run.roundRet hI [] (exB r (some x)) ⟨x, rfl, rfl, rfl⟩ ⟨rfl, rfl, trivial⟩ ⟨rfl, rfl, rfl, rfl, trivial⟩ rfl
    · rintro D h ⟨rfl, rfl⟩
      have hn : E = none := hex
      rw [hn]
      refine RunF_sound tab_ok (markX_local noX_local D) 100 [] _ _ rfl ?_ ?_
      · simp [okCell, Value.oneCell', ofConst]
      refine Run.retHB (Ds := [D]) tab_ok noX_local [] hB1 Tryd.func48 rfl ?_ rfl trivial rfl
      simp
    · rintro D pre c h hpre ⟨x, rfl, rfl, rfl⟩
      have hn : E = some x := by
        rw [hex]
        obtain ⟨t, rfl⟩ := hpre
        rfl
      rw [hn]
      refine Run.retHB (Ds := [D]) tab_ok noX_local [(0, 50)] hB1 Tryd.func48 rfl ?_ rfl ⟨rfl, trivial⟩ rfl
      simp
  · have hn : extendL r = none := by rw [extendL, ordersL, if_neg c]; rfl
    rw [hn]
    refine RunF_sound tab_ok noX_local 100 [true] _ _ rfl ?_ ?_
    · simp [c, okCell, Value.oneCell', ofConst]
    refine Run.retH tab_ok [] Tryd.func48 rfl ?_ rfl trivial rfl
    simp

theorem extend_enters : Enters Tryd.prog 48 := enters_mk Tryd.func48 (by decide) rfl

/-- A slice of natural numbers, as it lies in a world. -/
def SeesN (w : World) (p : Option Addr) (xs : List Nat) : Prop :=
  ∀ i (h : i < xs.length), p = some (p.getD default) ∧ w.cell? ((p.getD default).add i) = some (.int .i64 (xs[i] : Int))

theorem SeesN.agree {S : Nat → Prop} {w w' : World} {p : Option Addr} {xs : List Nat} (h : SeesN w p xs) (hA : Agree S w w') (hS : ∀ a, p = some a → ¬ S a.block) : SeesN w' p xs := by
  intro i hi
  obtain ⟨h1, h2⟩ := h i hi
  exact ⟨h1, hA.cell h2 (by rw [add_block]; exact hS _ h1)⟩

theorem seesN_row {M : AM.Loc} {w : World} {id e n : Nat} {l : List Nat} (hb : BlkAt M w id (.row e 1 n (encN l))) : SeesN w (some ⟨(M id).1, 0, none⟩) l := by
  intro i hi
  have := row_cells hb i (.int .i64 (l[i] : Int)) (by simp [encN, hi])
  refine ⟨rfl, ?_⟩
  rw [Option.getD_some, Addr.add_lit]
  exact this

theorem seesN_nil (w : World) (p : Option Addr) : SeesN w p [] := fun i hi => absurd hi (Nat.not_lt_zero _)

def c3 : Rl := ((Rl.void 3).setRow 0 6#64).setRow 1 4#64

theorem clos_sub {R : Rl} (hR : Rt R) (a b : Nat) (h : R.has a b = true) : (clos R).has a b = true := (clos_has hR a b).2 (.single h)

theorem clos_trans {R : Rl} (hR : Rt R) (a b c : Nat) (h1 : (clos R).has a b = true) (h2 : (clos R).has b c = true) : (clos R).has a c = true :=
  (clos_has hR a c).2 (TransGen_trans ((clos_has hR a b).1 h1) ((clos_has hR b c).1 h2))

def invR (R : Rl) : Rl := Rl.gen R.n fun x y => R.has y x

theorem invR_has (R : Rl) (a b : Nat) : (invR R).has a b = true ↔ R.has b a = true := by
  unfold invR
  rw [Rl.has_gen]
  constructor
  · intro h; simp at h; exact h.2
  · intro h; have := Rl.has_lt R h; simp [h, this]

theorem inverseT {r : Rl} (hr : Rt r) (w : World) (hT : TabAt w) (h0 : 0 < w.heap.size) : Gives Tryd.prog 94 [encRel r] w (encRel (invR r)) := by
  have := inverse_ok r w hT h0
  rwa [inverse_eq, hr.right] at this

/-- A list of numbers that lies somewhere: where, its capacity, the list. -/
abbrev Ent := Nat × Nat × List Nat

def slV (e : Ent) : Value := .slice (some ⟨e.1, 0, none⟩) e.2.2.length e.2.1

def EntAt (w : World) (e : Ent) : Prop := BlkAt (fun _ => (e.1, e.2.1)) w 0 (.row 3 1 e.2.2.length (encN e.2.2))

/-- A row of lists, as it lies in a world. -/
def SeesL (w : World) (p : Option Addr) (s : List Ent) : Prop :=
  (∀ i (h : i < s.length), p = some (p.getD default) ∧ w.cell? ((p.getD default).add i) = some (slV s[i])) ∧ ∀ e ∈ s, EntAt w e

/-- Walks of so many steps. -/
def W (R : Rl) : Nat → Nat → Nat → Prop
  | 0, a, b => a = b
  | n + 1, a, b => ∃ c, R.has a c = true ∧ W R n c b

open Classical in
noncomputable def dst (R : Rl) (g : Nat) : Nat → Nat → Nat
  | 0, _ => 0
  | n + 1, b => if dst R g n b ≠ 0 then dst R g n b else if 1 ≤ n ∧ W R n b g then n else 0

theorem dst_spec (R : Rl) (g : Nat) : ∀ n b, (dst R g n b = 0 ∧ ∀ m, 1 ≤ m → m < n → ¬ W R m b g) ∨
    (1 ≤ dst R g n b ∧ dst R g n b < n ∧ W R (dst R g n b) b g ∧ ∀ m, 1 ≤ m → m < dst R g n b → ¬ W R m b g)
  | 0, b => .inl ⟨rfl, fun m _ h => absurd h (Nat.not_lt_zero _)⟩
  | n + 1, b => by
    rcases dst_spec R g n b with ⟨h1, h2⟩ | ⟨h1, h2, h3, h4⟩
    · by_cases c : 1 ≤ n ∧ W R n b g
      · have e : dst R g (n + 1) b = n := by rw [dst, if_neg (by simp [h1]), if_pos c]
        rw [e]
        exact .inr ⟨c.1, Nat.lt_succ_self _, c.2, h2⟩
      · have e : dst R g (n + 1) b = 0 := by rw [dst, if_neg (by simp [h1]), if_neg c]
        refine .inl ⟨e, fun m hm hl hw => ?_⟩
        rcases Nat.lt_or_ge m n with h | h
        · exact h2 m hm h hw
        · obtain rfl : m = n := by omega
          exact c ⟨hm, hw⟩
    · have e : dst R g (n + 1) b = dst R g n b := by rw [dst, if_pos (by omega)]
      rw [e]
      exact .inr ⟨h1, by omega, h3, h4⟩

/-- What is found next. -/
def nxP (R : Rl) (g n b : Nat) : Prop := dst R g n b = 0 ∧ W R n b g

/-- From where one goes on. -/
def nwP (R : Rl) (g : Nat) : Nat → Nat → Prop
  | 0, _ => False
  | 1, b => b = g
  | n + 2, b => nxP R g (n + 1) b

theorem now_step (R : Rl) (g n b : Nat) (hn : 1 ≤ n) (hb : dst R g n b = 0) : (∃ x, nwP R g n x ∧ R.has b x = true) ↔ W R n b g := by
  match n, hn with
  | 1, _ =>
    constructor
    · rintro ⟨x, hx, h⟩
      exact ⟨x, h, hx⟩
    · rintro ⟨x, h, hx⟩
      exact ⟨x, hx, h⟩
  | k + 2, _ =>
    constructor
    · rintro ⟨x, hx, h⟩
      exact ⟨x, h, hx.2⟩
    · rintro ⟨c, h, hc⟩
      refine ⟨c, ⟨?_, hc⟩, h⟩
      rcases dst_spec R g (k + 1) c with h1 | ⟨h1, h2, h3, _⟩
      · exact h1.1
      · rcases dst_spec R g (k + 2) b with h4 | h4
        · exact absurd ⟨c, h, h3⟩ (h4.2 (dst R g (k + 1) c + 1) (by omega) (by omega))
        · omega

open Classical in
theorem dst_next (R : Rl) (g n b : Nat) (hn : 1 ≤ n) : dst R g (n + 1) b = if nxP R g n b then n else dst R g n b := by
  unfold nxP
  by_cases h : dst R g n b = 0
  · by_cases hw : W R n b g
    · rw [if_pos ⟨h, hw⟩, dst, if_neg (by simp [h]), if_pos ⟨hn, hw⟩]
    · rw [if_neg (fun h' => hw h'.2), dst, if_neg (by simp [h]), if_neg (fun h' => hw h'.2), h]
  · rw [if_neg (fun h' => h h'.1), dst, if_pos h]

theorem dst_closed (R : Rl) (g n : Nat) (hn : 2 ≤ n) (he : ∀ x, ¬ nwP R g n x) : ∀ m, 1 ≤ m → ∀ b, W R m b g → dst R g n b ≠ 0
  | 1, _, b, hw, h0 => by
    rcases dst_spec R g n b with h | h
    · exact h.2 1 (by omega) (by omega) hw
    · omega
  | m + 2, _, b, ⟨c, hbc, hc⟩, h0 => by
    have hc0 := dst_closed R g n hn he (m + 1) (by omega) c hc
    rcases dst_spec R g n c with h | ⟨h1, h2, h3, h4⟩
    · exact hc0 h.1
    · rcases dst_spec R g n b with h | h
      · rcases Nat.lt_or_ge (dst R g n c + 1) n with hl | hl
        · exact h.2 _ (by omega) hl ⟨c, hbc, h3⟩
        · obtain ⟨k, rfl⟩ : ∃ k, n = k + 2 := ⟨n - 2, by omega⟩
          have e : dst R g (k + 2) c = k + 1 := by omega
          rw [e] at h3 h4
          refine he c ⟨?_, h3⟩
          rcases dst_spec R g (k + 1) c with h5 | ⟨h5, h6, h7, _⟩
          · exact h5.1
          · exact absurd h7 (h4 _ h5 h6)
      · omega

theorem least_ex (p : Nat → Prop) (h : ∃ n, p n) : ∃ n, p n ∧ ∀ m, m < n → ¬ p m := by
  obtain ⟨n, hn⟩ := h
  induction n using Nat.strongRecOn with
  | _ n ih =>
    by_cases c : ∃ m, m < n ∧ p m
    · obtain ⟨m, hm, hp⟩ := c
      exact ih m hm hp
    · exact ⟨n, hn, fun m hm hp => c ⟨m, hm, hp⟩⟩

open Classical in
/-- How many steps, at least one, lead to the goal; 0: there is no way. -/
noncomputable def distR (R : Rl) (g b : Nat) : Nat := if h : ∃ m, 1 ≤ m ∧ W R m b g then (least_ex _ h).choose else 0

theorem distR_zero {R : Rl} {g b : Nat} (h : ∀ m, 1 ≤ m → ¬ W R m b g) : distR R g b = 0 := by
  unfold distR
  rw [dif_neg (fun ⟨m, h1, h2⟩ => h m h1 h2)]

theorem distR_at {R : Rl} {g b k : Nat} (h1 : 1 ≤ k) (h2 : W R k b g) (h3 : ∀ m, 1 ≤ m → m < k → ¬ W R m b g) : distR R g b = k := by
  have h : ∃ m, 1 ≤ m ∧ W R m b g := ⟨k, h1, h2⟩
  unfold distR
  rw [dif_pos h]
  obtain ⟨h4, h5⟩ := (least_ex _ h).choose_spec
  rcases Nat.lt_trichotomy ((least_ex _ h).choose) k with hl | hl | hl
  · exact absurd h4.2 (h3 _ h4.1 hl)
  · exact hl
  · exact absurd ⟨h1, h2⟩ (h5 k hl)

theorem distR_spec (R : Rl) (g b : Nat) : (distR R g b = 0 ∧ ∀ m, 1 ≤ m → ¬ W R m b g) ∨ (1 ≤ distR R g b ∧ W R (distR R g b) b g ∧ ∀ m, 1 ≤ m → m < distR R g b → ¬ W R m b g) := by
  by_cases h : ∃ m, 1 ≤ m ∧ W R m b g
  · obtain ⟨k, ⟨h1, h2⟩, h3⟩ := least_ex _ h
    have h3' : ∀ m, 1 ≤ m → m < k → ¬ W R m b g := fun m hm hl hw => h3 m hl ⟨hm, hw⟩
    rw [distR_at h1 h2 h3']
    exact .inr ⟨h1, h2, h3'⟩
  · have h' : ∀ m, 1 ≤ m → ¬ W R m b g := fun m h1 h2 => h ⟨m, h1, h2⟩
    exact .inl ⟨distR_zero h', h'⟩

theorem dst_final (R : Rl) (g n : Nat) (hn : 2 ≤ n) (he : ∀ x, ¬ nwP R g n x) (b : Nat) : dst R g n b = distR R g b := by
  rcases dst_spec R g n b with h | ⟨h1, h2, h3, h4⟩
  · rw [h.1, distR_zero fun m hm hw => dst_closed R g n hn he m hm b hw h.1]
  · rw [distR_at h1 h3 h4]

/-! ### Words -/

open Classical in
noncomputable def bitsP (p : Nat → Prop) : BitVec 64 := bitsB fun b => decide (p b)

theorem bitsP_get (p : Nat → Prop) (j : Nat) : (bitsP p).getLsbD j = true ↔ j < 64 ∧ p j := by
  unfold bitsP
  rw [bitsB_get]
  simp

theorem bits_ext {x y : BitVec 64} (h : ∀ j, j < 64 → (x.getLsbD j = true ↔ y.getLsbD j = true)) : x = y :=
  BitVec.eq_of_getLsbD_eq fun j hj => Bool.eq_iff_iff.2 (h j hj)

def orI (I : Rl) (l : List Nat) (acc : BitVec 64) : BitVec 64 := l.foldl (fun a b => a ||| I.row b) acc

theorem orI_get (I : Rl) (j : Nat) : ∀ (l : List Nat) (acc : BitVec 64), (orI I l acc).getLsbD j = true ↔ acc.getLsbD j = true ∨ ∃ b ∈ l, I.has b j = true
  | [], acc => by simp [orI]
  | b :: l, acc => by
    have := orI_get I j l (acc ||| I.row b)
    simp only [orI, List.foldl_cons] at this ⊢
    rw [this, BitVec.getLsbD_or]
    simp only [Bool.or_eq_true, List.mem_cons, exists_eq_or_imp]
    rw [or_assoc]; rfl

def setL (f : Nat → Nat) (l : List Nat) (n : Nat) : Nat → Nat := l.foldl (fun f b => fun x => if x = b then n else f x) f

theorem setL_at (n : Nat) : ∀ (l : List Nat) (f : Nat → Nat) (x : Nat), setL f l n x = if x ∈ l then n else f x
  | [], f, x => by simp [setL]
  | b :: l, f, x => by
    have := setL_at n l (fun x => if x = b then n else f x) x
    simp only [setL, List.foldl_cons] at this ⊢
    rw [this]
    by_cases h1 : x ∈ l
    · simp [h1]
    · by_cases h2 : x = b
      · simp [h2]
      · simp [h1, h2]

/-- How many have no number yet. -/
noncomputable def unseen (R : Rl) (g n : Nat) : Nat := (List.range 64).countP fun b => dst R g n b == 0

theorem unseen_le (R : Rl) (g n : Nat) (hn : 1 ≤ n) : unseen R g (n + 1) ≤ unseen R g n := by
  unfold unseen
  refine List.countP_mono_left fun b _ h => ?_
  rw [dst_next R g n b hn] at h
  split at h
  · simp at h; omega
  · exact h

theorem unseen_lt (R : Rl) (g n : Nat) (hn : 1 ≤ n) {b : Nat} (hb : b < 64) (h : nxP R g n b) : unseen R g (n + 1) < unseen R g n := by
  unfold unseen
  refine countP_lt (fun x _ hx => ?_) ⟨b, List.mem_range.2 hb, ?_, ?_⟩
  · rw [dst_next R g n x hn] at hx
    split at hx
    · simp at hx; omega
    · exact hx
  · simp [h.1]
  · rw [dst_next R g n b hn, if_pos h]
    simp; omega

theorem unseen_64 (R : Rl) (g n : Nat) : unseen R g n ≤ 64 := by
  unfold unseen
  have := List.countP_le_length (p := fun b => dst R g n b == 0) (l := List.range 64)
  simpa using this

def outV (f : Nat → Nat) : List Value := (List.range 64).map fun b => .int .i64 (f b : Int)

@[simp] theorem outV_length (f : Nat → Nat) : (outV f).length = 64 := by simp [outV]

theorem outV_get (f : Nat → Nat) (i : Nat) (h : i < 64) : (outV f)[i]? = some (.int .i64 (f i : Int)) := by simp [outV, h]

theorem outV_set (f : Nat → Nat) (b n : Nat) : (outV f).set b (.int .i64 (n : Int)) = outV (fun x => if x = b then n else f x) := by
  apply List.ext_getElem?
  intro i
  rcases Nat.lt_or_ge i 64 with hi | hi
  · rw [outV_get _ i hi]
    by_cases e : b = i
    · subst e
      rw [List.getElem?_set_self (by simpa using hi)]; simp
    · rw [List.getElem?_set_ne e, outV_get _ i hi, if_neg (fun h => e h.symm)]
  · rw [List.getElem?_eq_none (by simpa using hi), List.getElem?_eq_none (by simpa using hi)]

theorem outV_one (f : Nat → Nat) : ∀ c ∈ outV f, c.oneCell' = true := by
  intro c hc
  simp only [outV, List.mem_map] at hc
  obtain ⟨b, _, rfl⟩ := hc; rfl

theorem outV_one' (f : Nat → Nat) : (∀ c ∈ outV f, c.oneCell' = true) ↔ True := iff_true_intro (outV_one f)

abbrev farT (x now : BitVec 64) (n : Nat) : List (Nat × AV) := [(4, .ptr 1 0), (5, .ptr 2 0), (6, .ptr 3 0), (7, .v (.int .u64 (un now))), (8, .v (.int .u64 (un x))), (9, .v (.int .i64 (n : Int)))]

abbrev farB (R I : Rl) (f : Nat → Nat) : List (Nat × Blk) := [(0, .cells 34 [.vals 65 (relV R)]), (1, .cells 115 [.vals 64 (outV fun _ => 0)]), (2, .cells 115 [.vals 64 (outV f)]), (3, .cells 34 [.vals 65 (relV I)])]

theorem far_ok (R : Rl) (hR : Rt R) (g : Nat) (hg : g < 64) (w : World) (hT : TabAt w) (h0 : 0 < w.heap.size) :
    Gives Tryd.prog 79 [encRel R, .int .i64 (g : Int)] w (.agg (outV (distR R g)).toArray) := by
  refine Gives.of_run Tryd.func79 rfl (by show 2 ≤ 52; decide) ?_
  have z64 : z115.length = 64 := rfl
  refine RunF_sound tab_ok noX_local 100 [] _ _ rfl ?_ ?_
  · simp [z64]
  have hIh := invR_has R
  refine Run.callFn (r := encRel (invR R)) noX_local rfl rfl rfl rfl rfl rfl rfl inverse_enters rfl (fun w' hA => inverseT hR w' (hT.agree hA (fun f => f)) (Nat.lt_of_lt_of_le h0 hA.size)) ?_
  generalize invR R = I at hIh
  refine RunF_sound tab_ok noX_local 100 [] _ _ rfl ?_ ?_
  · simp [segsVals, relV_one']
  have nlt : ∀ n x, nwP R g n x → x < 64 := by
    intro n x hx
    match n, hx with
    | 1, hx => exact hx ▸ hg
    | k + 2, hx => exact (Rl.has_lt R hx.2.choose_spec.1).1
  have nxlt : ∀ n b, 1 ≤ n → nxP R g n b → b < 64 := fun n b hn h => nlt (n + 1) b (by obtain ⟨k, rfl⟩ : ∃ k, n = k + 1 := ⟨n - 1, by omega⟩; exact h)
  suffices H : ∀ (μ n : Nat) (now x : BitVec 64) (f : Nat → Nat), 1 ≤ n → n + μ ≤ 140 → 2 * unseen R g n + (if now = 0#64 then 0 else 1) ≤ μ → now = bitsP (nwP R g n) → x = bitsP (fun b => dst R g n b ≠ 0) → f = dst R g n →
      Run _ _ ⟨farT x now n, farB R I f, 4⟩ by
    have d1 : dst R g 1 = fun _ => 0 := by
      funext b
      rcases dst_spec R g 1 b with h | h
      · exact h.1
      · omega
    refine Run.to (H 129 1 (1#64 <<< g) 0#64 (fun _ => 0) (by omega) (by omega) ?_ ?_ ?_ d1.symm) ⟨rfl, rfl, rfl, ?_, rfl, rfl, trivial⟩ ⟨rfl, rfl, rfl, rfl, trivial⟩
    · have := unseen_64 R g 1
      split <;> omega
    · refine bits_ext fun j hj => ?_
      rw [one_shl_get g j hg, bitsP_get]
      simp [nwP, hj]
    · refine bits_ext fun j hj => ?_
      rw [bitsP_get, d1]
      simp
    · exact u64_eq (by rw [shl1_un]; simp)
  intro μ
  induction μ with
  | zero =>
    intro n now x f hn hle hμ hnow hx hf
    have hz : now = 0#64 := by
      by_cases h : now = 0#64
      · exact h
      · rw [if_neg h] at hμ; omega
    have hend : outV f = outV (distR R g) := by
      have hn2 : 2 ≤ n := by
        rcases Nat.lt_or_ge n 2 with h | h
        · obtain rfl : n = 1 := by omega
          have h1 : (bitsP (nwP R g 1)).getLsbD g = true := (bitsP_get _ _).2 ⟨hg, rfl⟩
          rw [← hnow, hz] at h1
          simp at h1
        · exact h
      have he : ∀ x, ¬ nwP R g n x := fun x hx' => by
        have h1 : (bitsP (nwP R g n)).getLsbD x = true := (bitsP_get _ _).2 ⟨nlt n x hx', hx'⟩
        rw [← hnow, hz] at h1
        simp at h1
      congr 1
      funext b
      rw [hf]; exact dst_final R g n hn2 he b
    refine RunF_sound tab_ok noX_local 100 [false] _ _ rfl ?_ ?_
    · simp [hz, segsVals, outV_one']
    refine Run.retP tab_ok Tryd.func79 rfl ?_ (fun M => ?_)
    · simp
    rw [← hend]; rfl
  | succ μ ih =>
    intro n now x f hn hle hμ hnow hx hf
    by_cases hz : now = 0#64
    · have hend : outV f = outV (distR R g) := by
        have hn2 : 2 ≤ n := by
          rcases Nat.lt_or_ge n 2 with h | h
          · obtain rfl : n = 1 := by omega
            have h1 : (bitsP (nwP R g 1)).getLsbD g = true := (bitsP_get _ _).2 ⟨hg, rfl⟩
            rw [← hnow, hz] at h1
            simp at h1
          · exact h
        have he : ∀ x, ¬ nwP R g n x := fun x hx' => by
          have h1 : (bitsP (nwP R g n)).getLsbD x = true := (bitsP_get _ _).2 ⟨nlt n x hx', hx'⟩
          rw [← hnow, hz] at h1
          simp at h1
        congr 1
        funext b
        rw [hf]; exact dst_final R g n hn2 he b
      refine RunF_sound tab_ok noX_local 100 [false] _ _ rfl ?_ ?_
      · simp [hz, segsVals, outV_one']
      refine Run.retP tab_ok Tryd.func79 rfl ?_ (fun M => ?_)
      · simp
      rw [← hend]; rfl
    · have hbits : ∀ b, b ∈ bitsL now ↔ b < 64 ∧ nwP R g n b := fun b => by rw [bitsL_mem, hnow, bitsP_get]
      refine RunF_sound tab_ok noX_local 100 [true] _ _ rfl ?_ ?_
      · simp [hz]
      suffices H2 : ∀ (m : Nat) (y acc : BitVec 64), (bitsL y).length = m → orI I (bitsL y) acc = orI I (bitsL now) 0#64 →
          Run _ _ ⟨[(4, .ptr 1 0), (5, .ptr 2 0), (6, .ptr 3 0), (7, .v (.int .u64 (un y))), (8, .v (.int .u64 (un x))), (9, .v (.int .i64 (n : Int))), (10, .v (.int .u64 (un acc)))], farB R I f, 4⟩ by
        exact Run.to (H2 _ now 0#64 rfl rfl) ⟨rfl, rfl, rfl, rfl, rfl, rfl, rfl, trivial⟩ ⟨rfl, rfl, rfl, rfl, trivial⟩
      intro m
      induction m with
      | zero =>
        intro y acc hm hacc
        have hy : y = 0#64 := by
          by_cases h : y = 0#64
          · exact h
          · rw [bitsL_cons y h] at hm; cases hm
        rw [hy, bitsL_zero] at hacc
        have hnx : ∀ j, (acc &&& ~~~x).getLsbD j = true ↔ j < 64 ∧ nxP R g n j := by
          intro j
          rw [BitVec.getLsbD_and, BitVec.getLsbD_not, Bool.and_eq_true]
          have h1 : acc.getLsbD j = true ↔ ∃ b, nwP R g n b ∧ R.has j b = true := by
            have : acc = orI I (bitsL now) 0#64 := hacc
            rw [this, orI_get]
            simp only [BitVec.getLsbD_zero, Bool.false_eq_true, false_or]
            constructor
            · rintro ⟨b, hb, h⟩; exact ⟨b, ((hbits b).1 hb).2, (hIh b j).1 h⟩
            · rintro ⟨b, hb, h⟩; exact ⟨b, (hbits b).2 ⟨nlt n b hb, hb⟩, (hIh b j).2 h⟩
          have h2 : x.getLsbD j = true ↔ j < 64 ∧ dst R g n j ≠ 0 := by rw [hx, bitsP_get]
          rw [h1]
          constructor
          · rintro ⟨h3, h4⟩
            simp only [Bool.and_eq_true, decide_eq_true_eq, Bool.not_eq_true'] at h4
            have h5 : dst R g n j = 0 := by
              by_cases h : dst R g n j = 0
              · exact h
              · rw [h2.2 ⟨h4.1, h⟩] at h4; cases h4.2
            exact ⟨h4.1, h5, (now_step R g n j hn h5).1 h3⟩
          · rintro ⟨hj, h5, h6⟩
            refine ⟨(now_step R g n j hn h5).2 h6, ?_⟩
            have : x.getLsbD j = false := Bool.eq_false_iff.2 fun h => (h2.1 h).2 h5
            rw [this, decide_eq_true hj]; rfl
        generalize hnxt : acc &&& ~~~x = nxt at hnx
        have hnb : ∀ b, b ∈ bitsL nxt ↔ b < 64 ∧ nxP R g n b := fun b => by rw [bitsL_mem]; exact hnx b
        refine RunF_sound tab_ok noX_local 100 [false] _ _ rfl ?_ ?_
        · simp [hy]
        suffices H3 : ∀ (m : Nat) (l : BitVec 64) (f' : Nat → Nat), (bitsL l).length = m → setL f' (bitsL l) n = dst R g (n + 1) →
            Run _ _ ⟨[(4, .ptr 1 0), (5, .ptr 2 0), (6, .ptr 3 0), (8, .v (.int .u64 (un (x ||| nxt)))), (9, .v (.int .i64 (n : Int))), (10, .v (.int .u64 (un nxt))), (11, .v (.int .u64 (un l)))], farB R I f', 4⟩ by
          refine Run.to (H3 _ nxt f rfl ?_) ⟨rfl, rfl, rfl, u64_eq (by simp [hnxt]), rfl, u64_eq (by simp [hnxt]), u64_eq (by simp [hnxt]), trivial⟩ ⟨rfl, rfl, rfl, rfl, trivial⟩
          funext b
          rw [setL_at, dst_next R g n b hn, hf]
          by_cases h : nxP R g n b
          · rw [if_pos h, if_pos ((hnb b).2 ⟨nxlt n b hn h, h⟩)]
          · rw [if_neg h, if_neg fun h' => h ((hnb b).1 h').2]
        intro m3
        induction m3 with
        | zero =>
          intro l f' hl hset
          have hl0 : l = 0#64 := by
            by_cases h : l = 0#64
            · exact h
            · rw [bitsL_cons l h] at hl; cases hl
          rw [hl0, bitsL_zero] at hset
          refine RunF_sound tab_ok noX_local 100 [false] _ _ rfl ?_ ?_
          · simp [hl0]
          refine Run.to (ih (n + 1) nxt (x ||| nxt) f' (by omega) (by omega) ?_ ?_ ?_ hset) ⟨rfl, rfl, rfl, rfl, rfl, i64_eq (wrap_succ (by omega)), trivial⟩ ⟨rfl, rfl, rfl, rfl, trivial⟩
          · have hu := unseen_le R g n hn
            rw [if_neg hz] at hμ
            split
            · omega
            · rename_i hnz
              have : ∃ b, b < 64 ∧ nxP R g n b := by
                have hb : tz nxt ∈ bitsL nxt := by rw [bitsL_cons nxt hnz]; simp
                exact ⟨_, (hnb _).1 hb⟩
              obtain ⟨b, hb, hbn⟩ := this
              have := unseen_lt R g n hn hb hbn
              omega
          · refine bits_ext fun j hj => ?_
            rw [hnx, bitsP_get]
            obtain ⟨k, rfl⟩ : ∃ k, n = k + 1 := ⟨n - 1, by omega⟩
            rfl
          · refine bits_ext fun j hj => ?_
            rw [BitVec.getLsbD_or, Bool.or_eq_true, hnx, hx, bitsP_get, bitsP_get, dst_next R g n j hn]
            by_cases h : nxP R g n j
            · rw [if_pos h]
              simp [h, hj]; omega
            · rw [if_neg h]
              simp [h]
        | succ m3 ih3 =>
          intro l f' hl hset
          have hl0 : l ≠ 0#64 := fun h => by rw [h, bitsL_zero] at hl; cases hl
          have htl := tz_lt l hl0
          rw [bitsL_cons l hl0] at hset hl
          refine RunF_sound tab_ok noX_local 100 [true] _ _ rfl ?_ ?_
          · simp [hl0]
          refine Run.callFn (r := .int .i64 (tz l : Int)) noX_local rfl rfl rfl rfl rfl rfl rfl tz_enters rfl (fun w' hw' => by have := tz_ok l w' (hT.agree hw' (fun f => f)); rwa [tzI, if_neg hl0] at this) ?_
          refine RunF_sound tab_ok noX_local 100 [] _ _ rfl ?_ ?_
          · simp [okCell, Value.oneCell']; omega
          refine Run.to (ih3 (dropLow l) (fun y => if y = tz l then n else f' y) (by simpa using hl) hset) ⟨rfl, rfl, rfl, rfl, rfl, rfl, u64_eq (by rw [sub1_un, band_un]; rfl), trivial⟩ ⟨rfl, rfl, ?_, rfl, trivial⟩
          refine congrArg (fun l => some (Blk.cells 115 [.vals 64 l])) ?_
          rw [← outV_set]
          simp
      | succ m ihm =>
        intro y acc hm hacc
        have hy : y ≠ 0#64 := fun h => by rw [h, bitsL_zero] at hm; cases hm
        have hty := tz_lt y hy
        rw [bitsL_cons y hy] at hacc hm
        refine RunF_sound tab_ok noX_local 100 [true] _ _ rfl ?_ ?_
        · simp [hy]
        refine Run.callFn (r := .int .i64 (tz y : Int)) noX_local rfl rfl rfl rfl rfl rfl rfl tz_enters rfl (fun w' hw' => by have := tz_ok y w' (hT.agree hw' (fun f => f)); rwa [tzI, if_neg hy] at this) ?_
        refine RunF_sound tab_ok noX_local 100 [] _ _ rfl ?_ ?_
        · simp [relV_get _ _ hty, intAt_row _ _ hty]; omega
        refine Run.to (ihm (dropLow y) (acc ||| I.row (tz y)) (by simpa using hm) hacc) ⟨rfl, rfl, rfl, u64_eq (by rw [sub1_un, band_un]; rfl), rfl, rfl, u64_eq ?_, trivial⟩ ⟨rfl, rfl, rfl, rfl, trivial⟩
        have e1 : intAt (relV I) (1 + tz y) = un (I.row (tz y)) := intAt_row _ _ hty
        simp [e1]

theorem far_enters : Enters Tryd.prog 79 := enters_mk Tryd.func79 (by decide) rfl

theorem W_add (R : Rl) : ∀ (a b x y z : Nat), W R a x y → W R b y z → W R (a + b) x z
  | 0, b, x, y, z, h, k => by cases h; rw [Nat.zero_add]; exact k
  | a + 1, b, x, y, z, ⟨c, h1, h2⟩, k => by
    rw [show a + 1 + b = (a + b) + 1 by omega]
    exact ⟨c, h1, W_add R a b c y z h2 k⟩

theorem W_snoc (R : Rl) {n x y z : Nat} (h : W R n x y) (k : R.has y z = true) : W R (n + 1) x z := W_add R n 1 x y z h ⟨z, k, rfl⟩

open Classical in
/-- Where one goes on, so many steps from the goal. -/
noncomputable def nxtR (R : Rl) (g a k : Nat) : Option Nat := (List.range 64).find? fun b => R.has a b && decide (W R k b g)

/-- The way, each time by the least number. -/
noncomputable def pathR (R : Rl) (g : Nat) : Nat → Nat → List Nat
  | _, 0 => []
  | a, k + 1 => (nxtR R g a (k + 1)).getD 0 :: pathR R g ((nxtR R g a (k + 1)).getD 0) k

theorem pathR_length (R : Rl) (g : Nat) : ∀ k a, (pathR R g a k).length = k
  | 0, _ => rfl
  | k + 1, a => by simp [pathR, pathR_length R g k]

open Classical in
theorem nxtR_some (R : Rl) (g a k : Nat) (h : W R (k + 1) a g) : ∃ b, nxtR R g a k = some b ∧ b < 64 ∧ R.has a b = true ∧ W R k b g := by
  unfold nxtR
  cases hf : (List.range 64).find? (fun b => R.has a b && decide (W R k b g)) with
  | none =>
    obtain ⟨c, h1, h2⟩ := h
    have := List.find?_eq_none.1 hf c (List.mem_range.2 (Rl.has_lt R h1).2)
    simp [h1, h2] at this
  | some b =>
    have h1 := List.find?_some hf
    have h2 := List.mem_of_find?_eq_some hf
    simp only [Bool.and_eq_true, decide_eq_true_eq] at h1
    exact ⟨b, rfl, List.mem_range.1 h2, h1.1, h1.2⟩

/-- What the first shortest way round is. -/
def IsCyc (R : Rl) (x : Option (List Nat)) : Prop :=
  (x = none ∧ ∀ a m, 1 ≤ m → ¬ W R m a a) ∨
  ∃ g k, x = some (g :: pathR R g g k) ∧ W R (k + 1) g g ∧ (∀ a m, 1 ≤ m → m < k + 1 → ¬ W R m a a) ∧ ∀ a, a < g → ¬ W R (k + 1) a a

theorem IsCyc.eq {R : Rl} {x y : Option (List Nat)} (hx : IsCyc R x) (hy : IsCyc R y) : x = y := by
  rcases hx with ⟨rfl, h1⟩ | ⟨g, k, rfl, h1, h2, h3⟩ <;> rcases hy with ⟨rfl, h4⟩ | ⟨g', k', rfl, h4, h5, h6⟩
  · rfl
  · exact absurd h4 (h1 _ _ (by omega))
  · exact absurd h1 (h4 _ _ (by omega))
  · obtain rfl : k = k' := by
      rcases Nat.lt_trichotomy k k' with h | h | h
      · exact absurd h1 (h5 _ _ (by omega) (by omega))
      · exact h
      · exact absurd h4 (h2 _ _ (by omega) (by omega))
    obtain rfl : g = g' := by
      rcases Nat.lt_trichotomy g g' with h | h | h
      · exact absurd h1 (h6 _ h)
      · exact h
      · exact absurd h4 (h3 _ h)
    rfl

theorem cyc_ex (R : Rl) : ∃ x, IsCyc R x := by
  by_cases h : ∃ k, ∃ a, W R (k + 1) a a
  · obtain ⟨k, ⟨a, ha⟩, hk⟩ := least_ex _ h
    obtain ⟨g, hg, hl⟩ := least_ex (fun a => W R (k + 1) a a) ⟨a, ha⟩
    refine ⟨some (g :: pathR R g g k), .inr ⟨g, k, rfl, hg, fun a m hm hl hw => ?_, hl⟩⟩
    obtain ⟨m', rfl⟩ : ∃ m', m = m' + 1 := ⟨m - 1, by omega⟩
    exact hk m' (by omega) ⟨a, hw⟩
  · refine ⟨none, .inl ⟨rfl, fun a m hm hw => h ⟨m - 1, a, ?_⟩⟩⟩
    rwa [show m - 1 + 1 = m by omega]

/-- Which start is the best one so far. -/
def Best (R : Rl) (i b f : Nat) : Prop :=
  (b = 0 ∧ ∀ j, j < i → distR R j j = 0) ∨
  (0 < b ∧ f < i ∧ distR R f f = b ∧ (∀ j, j < i → distR R j j = 0 ∨ b ≤ distR R j j) ∧ ∀ j, j < f → distR R j j = 0 ∨ b < distR R j j)

theorem Best.keep {R : Rl} {i b f : Nat} (h : Best R i b f) (hd : distR R i i = 0 ∨ (b ≠ 0 ∧ b ≤ distR R i i)) : Best R (i + 1) b f := by
  rcases h with ⟨h1, h2⟩ | ⟨h1, h2, h3, h4, h5⟩
  · refine .inl ⟨h1, fun j hj => ?_⟩
    rcases Nat.lt_or_ge j i with h | h
    · exact h2 j h
    · obtain rfl : j = i := by omega
      rcases hd with h | h
      · exact h
      · exact absurd h1 h.1
  · refine .inr ⟨h1, by omega, h3, fun j hj => ?_, h5⟩
    rcases Nat.lt_or_ge j i with h | h
    · exact h4 j h
    · obtain rfl : j = i := by omega
      rcases hd with h | h
      · exact .inl h
      · exact .inr h.2

theorem Best.take {R : Rl} {i b f : Nat} (h : Best R i b f) (hd : distR R i i ≠ 0) (hb : b = 0 ∨ distR R i i < b) : Best R (i + 1) (distR R i i) i := by
  refine .inr ⟨by omega, by omega, rfl, fun j hj => ?_, fun j hj => ?_⟩
  · rcases Nat.lt_or_ge j i with hl | hl
    · rcases h with ⟨h1, h2⟩ | ⟨h1, h2, h3, h4, h5⟩
      · exact .inl (h2 j hl)
      · rcases h4 j hl with h | h
        · exact .inl h
        · exact .inr (by omega)
    · obtain rfl : j = i := by omega
      exact .inr (Nat.le_refl _)
  · rcases h with ⟨h1, h2⟩ | ⟨h1, h2, h3, h4, h5⟩
    · exact .inl (h2 j hj)
    · rcases h4 j hj with h | h
      · exact .inl h
      · exact .inr (by omega)

theorem Best.none {R : Rl} (hR : Rt R) {n f : Nat} (hn : R.n = (n : Int)) (h : Best R n 0 f) : IsCyc R none := by
  refine .inl ⟨rfl, fun a m hm hw => ?_⟩
  rcases h with ⟨_, h⟩ | ⟨h, _⟩
  · obtain ⟨m', rfl⟩ : ∃ m', m = m' + 1 := ⟨m - 1, by omega⟩
    have ha : a < n := by
      have := hR.lt _ _ hw.choose_spec.1
      omega
    rcases distR_spec R a a with h1 | h1
    · exact h1.2 _ hm hw
    · have := h a ha; omega
  · exact absurd h (Nat.lt_irrefl 0)

theorem Best.some {R : Rl} (hR : Rt R) {n f k : Nat} (hn : R.n = (n : Int)) (h : Best R n (k + 1) f) : f < n ∧ W R (k + 1) f f ∧ (∀ a m, 1 ≤ m → m < k + 1 → ¬ W R m a a) ∧ ∀ a, a < f → ¬ W R (k + 1) a a := by
  rcases h with ⟨h, _⟩ | ⟨_, h2, h3, h4, h5⟩
  · omega
  · have hlt : ∀ a m, 1 ≤ m → W R m a a → a < n := by
      intro a m hm hw
      obtain ⟨m', rfl⟩ : ∃ m', m = m' + 1 := ⟨m - 1, by omega⟩
      have := hR.lt _ _ hw.choose_spec.1
      omega
    refine ⟨h2, ?_, fun a m hm hl hw => ?_, fun a ha hw => ?_⟩
    · rcases distR_spec R f f with h | h
      · omega
      · rw [h3] at h; exact h.2.1
    · have ha := hlt a m hm hw
      rcases distR_spec R a a with h | ⟨h6, h7, h8⟩
      · exact h.2 m hm hw
      · rcases h4 a ha with h | h
        · omega
        · rcases Nat.lt_or_ge m (distR R a a) with hml | hml
          · exact h8 m hm hml hw
          · omega
    · have h1 : 1 ≤ k + 1 := by omega
      rcases distR_spec R a a with h | ⟨h6, h7, h8⟩
      · exact h.2 _ h1 hw
      · rcases h5 a ha with h | h
        · omega
        · exact h8 _ h1 h hw

/-- On the way round: how far it is tells where one may go on. -/
theorem way_iff {R : Rl} {g a k j b : Nat} (hk : 1 ≤ k) (h1 : W R j g a) (h2 : ∀ a m, 1 ≤ m → m < j + 1 + k → ¬ W R m a a) (hab : R.has a b = true) : W R k b g ↔ distR R g b = k := by
  constructor
  · intro h
    rcases distR_spec R g b with h3 | ⟨h3, h4, h5⟩
    · exact absurd h (h3.2 k hk)
    · rcases Nat.lt_trichotomy (distR R g b) k with hl | hl | hl
      · have := W_add R (j + 1) (distR R g b) g b g (W_snoc R h1 hab) h4
        exact absurd this (h2 g _ (by omega) (by omega))
      · exact hl
      · exact absurd h (h5 k hk hl)
  · intro h
    rcases distR_spec R g b with h3 | ⟨h3, h4, h5⟩
    · omega
    · rwa [h] at h4

theorem level_le (R : Rl) (g : Nat) : ∀ n, 1 ≤ n → ∀ x, nxP R g n x → unseen R g (n + 1) + n ≤ 64
  | 1, _, x, hx => by
    have h1 := unseen_64 R g 1
    have := unseen_lt R g 1 (by omega) (Rl.has_lt R hx.2.choose_spec.1).1 hx
    omega
  | n + 2, _, x, hx => by
    obtain ⟨c, hc, _⟩ := (now_step R g (n + 2) x (by omega) hx.1).2 hx.2
    have h1 : unseen R g (n + 2) + (n + 1) ≤ 64 := level_le R g (n + 1) (by omega) c hc
    have h2 : unseen R g (n + 2 + 1) < unseen R g (n + 2) := unseen_lt R g (n + 2) (by omega) (Rl.has_lt R hx.2.choose_spec.1).1 hx
    omega

theorem dist_le (R : Rl) (g b : Nat) : distR R g b ≤ 64 := by
  rcases distR_spec R g b with h | ⟨h1, h2, h3⟩
  · omega
  · have hn : nxP R g (distR R g b) b := by
      refine ⟨?_, h2⟩
      rcases dst_spec R g (distR R g b) b with h | ⟨h4, h5, h6, _⟩
      · exact h.1
      · exact absurd h6 (h3 _ h4 h5)
    have := level_le R g _ h1 b hn
    omega

open Classical in
theorem find_way {R : Rl} {g a k j : Nat} (hk : 1 ≤ k) (h1 : W R j g a) (h2 : ∀ a m, 1 ≤ m → m < j + 1 + k → ¬ W R m a a) :
    (bitsL (R.row a)).find? (fun b => decide (distR R g b = k)) = nxtR R g a k := by
  unfold nxtR bitsL
  rw [List.find?_filter]
  congr 1
  funext b
  rw [Bool.eq_iff_iff]
  simp only [Bool.and_eq_true, decide_eq_true_eq]
  exact ⟨fun ⟨h, e⟩ => ⟨h, (way_iff hk h1 h2 h).2 e⟩, fun ⟨h, e⟩ => ⟨h, (way_iff hk h1 h2 h).1 e⟩⟩

theorem encN_snoc {l : List Nat} {j : Nat} (hl : l.length = j) (x : Nat) : (encN l).take (j * 1) ++ [Value.int .i64 (x : Int)] = encN (l ++ [x]) := by
  rw [Nat.mul_one, List.take_of_length_le (by simp [hl]), encN_append]; rfl

abbrev cy2T (bst a j : Nat) : List (Nat × AV) := [(1, .ptr 0 0), (4, .v (.int .i64 (bst : Int))), (8, .ptr 1 0), (9, .sl 20 1 0 j), (10, .v (.int .i64 (a : Int)))]

abbrev cy2B (R : Rl) (f : Nat → Nat) (l : List Nat) (j : Nat) : List (Nat × Blk) := [(0, .cells 34 [.vals 65 (relV R)]), (1, .cells 115 [.vals 64 (outV f)]), (20, .row 3 1 j (encN l))]

set_option maxHeartbeats 600000 in
open Classical in
theorem cycle_ok (r : Rl) (x : Option (List Nat)) (hx : IsCyc (rightL r) x) (w : World) (hT : TabAt w) (h0 : 0 < w.heap.size) : HandsZ Tryd.prog 46 [encRel r] w (exZ x) (exH x) := by
  refine HandsZ.of_run Tryd.func46 rfl (by show 1 ≤ 77; decide) ?_
  refine RunF_sound tab_ok noX_local 100 [] _ _ rfl ?_ ?_
  · simp
  refine Run.callFn noX_local rfl rfl rfl rfl rfl rfl rfl right_enters rfl (fun w' _ => right_ok r w') ?_
  have hR := rt_right r
  generalize rightL r = R at hx hR
  obtain ⟨n, hn⟩ : ∃ n : Nat, R.n = (n : Int) := ⟨R.n.toNat, by have := hR.lo; omega⟩
  have hn64 : n ≤ 64 := by have := hR.hi; omega
  have hfar : ∀ g : Nat, g < 64 → ∀ w', Agree (fun _ => False) w w' → Gives Tryd.prog 79 [encRel R, .int .i64 (g : Int)] w' (.agg (outV (distR R g)).toArray) :=
    fun g hg w' hA => far_ok R hR g hg w' (hT.agree hA (fun f => f)) (Nat.lt_of_lt_of_le h0 hA.size)
  refine RunF_sound tab_ok noX_local 100 [] _ _ rfl ?_ ?_
  · simp [segsVals, relV_one']
  suffices H : ∀ (m i b f : Nat), i + m = n → Best R i b f → Run _ _ ⟨[(1, .ptr 0 0), (4, .v (.int .i64 (b : Int))), (5, .v (.int .i64 (f : Int))), (16, .v (.int .i64 (n : Int))), (17, .v (.int .i64 (i : Int)))], [(0, .cells 34 [.vals 65 (relV R)])], 1⟩ by
    refine Run.to (H n 0 0 0 (by omega) (.inl ⟨rfl, fun j hj => absurd hj (Nat.not_lt_zero _)⟩)) ⟨rfl, rfl, rfl, ?_, rfl, trivial⟩ ⟨rfl, trivial⟩
    exact congrArg (fun z : Int => some (AV.v (.int .i64 z))) hn
  intro m
  induction m with
  | zero =>
    intro i b f hi hb
    obtain rfl : i = n := by omega
    rcases b with _ | k
    · obtain rfl : x = none := hx.eq (hb.none hR hn)
      refine RunF_sound tab_ok noX_local 100 [false, true] _ _ rfl ?_ ?_
      · simp
      refine Run.retH tab_ok [] Tryd.func46 rfl ?_ rfl trivial rfl
      simp
    · obtain ⟨hf, h1, h2, h3⟩ := hb.some hR hn
      obtain rfl : x = some (f :: pathR R f f k) := hx.eq (.inr ⟨f, k, rfl, h1, h2, h3⟩)
      have hf64 : f < 64 := by omega
      have hk64 : k + 1 ≤ 64 := by
        have := dist_le R f f
        rwa [distR_at (k := k + 1) (by omega) h1 (fun m hm hl => h2 f m hm hl)] at this
      refine RunF_sound tab_ok noX_local 100 [false, false] _ _ rfl ?_ ?_
      · simp; omega
      refine Run.callFn noX_local rfl rfl rfl rfl rfl rfl rfl far_enters rfl (fun w' hA => hfar f hf64 w' hA) ?_
      have z64 : z115.length = 64 := rfl
      refine RunF_sound tab_ok noX_local 100 [] _ _ rfl ?_ ?_
      · simp [segsVals, z64, outV_one', fillL, Value.cells, splice, repL, maxLen]
      suffices H2 : ∀ (k' a j : Nat) (l : List Nat), l.length = j → j + k' = k + 1 → 1 ≤ j → W R (j - 1) f a → W R (k' + 1) a f → l ++ pathR R f a k' = f :: pathR R f f k →
          Run _ _ ⟨cy2T (k + 1) a j, cy2B R (distR R f) l j, 21⟩ by
        exact Run.toR [(20, 2)] (H2 k f 1 [f] rfl (by omega) (by omega) rfl h1 rfl) ⟨rfl, rfl, rfl, rfl, rfl, trivial⟩ ⟨rfl, rfl, rfl, trivial⟩ rfl
      intro k'
      induction k' with
      | zero =>
        intro a j l hl hj h1j _ _ hpath
        have e : l = f :: pathR R f f k := by rw [← hpath]; simp [pathR]
        have ej : j = (f :: pathR R f f k).length := by rw [← e, hl]
        subst e
        refine RunF_sound tab_ok noX_local 100 [false] _ _ rfl ?_ ?_
        · simp; omega
        refine Run.retH tab_ok [(0, 20)] Tryd.func46 rfl ?_ ?_ ⟨?_, trivial⟩ rfl
        · simp
        · rw [ej]; rfl
        · rw [ej]; rfl
      | succ k' ihk =>
        intro a j l hl hj h1j hwa hwb hpath
        have ha64 : a < 64 := (Rl.has_lt R hwb.choose_spec.1).1
        obtain ⟨b, hb, hb64, hab, hwbb⟩ := nxtR_some R f a (k' + 1) hwb
        have hfind := find_way (R := R) (g := f) (a := a) (k := k' + 1) (j := j - 1) (by omega) hwa (by rw [show j - 1 + 1 + (k' + 1) = k + 1 by omega]; exact h2)
        rw [hb] at hfind
        have hpath' : (l ++ [b]) ++ pathR R f b k' = f :: pathR R f f k := by
          rw [← hpath, pathR, hb]; simp
        refine RunF_sound tab_ok noX_local 100 [true] _ _ rfl ?_ ?_
        · simp [relV_get _ _ ha64, intAt_row _ _ ha64]; omega
        suffices H3 : ∀ (m : Nat) (y : BitVec 64), (bitsL y).length = m → (bitsL y).find? (fun x => decide (distR R f x = k' + 1)) = some b →
            Run _ _ ⟨[(1, .ptr 0 0), (4, .v (.int .i64 ((k + 1 : Nat) : Int))), (8, .ptr 1 0), (9, .sl 20 1 0 j), (10, .v (.int .i64 (a : Int))), (11, .v (.int .u64 (un y)))], cy2B R (distR R f) l j, 21⟩ by
          refine Run.to (H3 _ (R.row a) rfl hfind) ⟨rfl, rfl, rfl, rfl, rfl, ?_, trivial⟩ ⟨rfl, rfl, rfl, trivial⟩
          have e1 : intAt (relV R) (1 + a) = un (R.row a) := intAt_row _ _ ha64
          simp [lk, e1]
        intro m3
        induction m3 with
        | zero =>
          intro y hm hfd
          have : bitsL y = [] := List.length_eq_zero_iff.1 hm
          rw [this] at hfd; cases hfd
        | succ m3 ih3 =>
          intro y hm hfd
          have hy : y ≠ 0#64 := fun h => by rw [h, bitsL_zero] at hm; cases hm
          have hty := tz_lt y hy
          rw [bitsL_cons y hy] at hm hfd
          have hget := outV_get (distR R f) (tz y) hty
          have hgi : intAt (outV (distR R f)) (tz y) = (distR R f (tz y) : Int) := by simp [intAt, hget]
          refine RunF_sound tab_ok noX_local 100 [true] _ _ rfl ?_ ?_
          · simp [hy]
          refine Run.callFn (r := .int .i64 (tz y : Int)) noX_local rfl rfl rfl rfl rfl rfl rfl tz_enters rfl (fun w' hw' => by have := tz_ok y w' (hT.agree hw' (fun f => f)); rwa [tzI, if_neg hy] at this) ?_
          have hsub : IntKind.i64.wrap ((k : Int) + 1 - (j : Int)) = (k' : Int) + 1 := by rw [wrap_i64] <;> omega
          by_cases c : distR R f (tz y) = k' + 1
          · rw [List.find?_cons_of_pos (by simpa using c)] at hfd
            obtain rfl : tz y = b := Option.some.inj hfd
            refine RunF_sound tab_ok noX_local 100 [true] _ _ rfl ?_ ?_
            · simp [hget, hgi, hsub, c, fillL, Value.cells, splice, repL, maxLen, Value.oneCell']
              omega
            refine Run.toR [(20, 22)] (ihk (tz y) (j + 1) (l ++ [tz y]) (by simp [hl]) (by omega) (by omega) (by rw [show j + 1 - 1 = (j - 1) + 1 by omega]; exact W_snoc R hwa hab) hwbb hpath') ⟨rfl, rfl, rfl, rfl, rfl, trivial⟩ ⟨rfl, rfl, ?_, trivial⟩ rfl
            refine congrArg (fun v => some (Blk.row 3 1 (j + 1) v)) ?_
            exact encN_snoc hl (tz y)
          · rw [List.find?_cons_of_neg (by simpa using c)] at hfd
            refine RunF_sound tab_ok noX_local 100 [false] _ _ rfl ?_ ?_
            · simp [hget, hgi, hsub]; omega
            exact Run.to (ih3 (dropLow y) (by simpa using hm) hfd) ⟨rfl, rfl, rfl, rfl, rfl, u64_eq (by rw [sub1_un, band_un]; rfl), trivial⟩ ⟨rfl, rfl, rfl, trivial⟩
  | succ m ih =>
    intro i b f hi hb
    have hi64 : i < 64 := by omega
    refine RunF_sound tab_ok noX_local 100 [true] _ _ rfl ?_ ?_
    · simp; omega
    refine Run.callFn noX_local rfl rfl rfl rfl rfl rfl rfl far_enters rfl (fun w' hA => hfar i hi64 w' hA) ?_
    have hget := outV_get (distR R i) i hi64
    have hgi : intAt (outV (distR R i)) i = (distR R i i : Int) := by simp [intAt, hget]
    by_cases c0 : distR R i i = 0
    · refine RunF_sound tab_ok noX_local 100 [false] _ _ rfl ?_ ?_
      · simp [hget, hgi, c0]; omega
      exact Run.to (ih (i + 1) b f (by omega) (hb.keep (.inl c0))) ⟨rfl, rfl, rfl, rfl, i64_eq (wrap_succ (by omega)), trivial⟩ ⟨rfl, trivial⟩
    · by_cases c1 : b = 0
      · refine RunF_sound tab_ok noX_local 100 [true, true] _ _ rfl ?_ ?_
        · simp [hget, hgi, c1]; omega
        refine Run.to (ih (i + 1) (distR R i i) i (by omega) (hb.take c0 (.inl c1))) ⟨rfl, ?_, rfl, rfl, i64_eq (wrap_succ (by omega)), trivial⟩ ⟨rfl, trivial⟩
        simp [lk, hgi]
      · by_cases c2 : distR R i i < b
        · refine RunF_sound tab_ok noX_local 100 [true, false, true] _ _ rfl ?_ ?_
          · simp [hget, hgi, c1, c2]; omega
          refine Run.to (ih (i + 1) (distR R i i) i (by omega) (hb.take c0 (.inr c2))) ⟨rfl, ?_, rfl, rfl, i64_eq (wrap_succ (by omega)), trivial⟩ ⟨rfl, trivial⟩
          simp [lk, hgi]
        · refine RunF_sound tab_ok noX_local 100 [true, false, false] _ _ rfl ?_ ?_
          · simp [hget, hgi, c1]; omega
          exact Run.to (ih (i + 1) b f (by omega) (hb.keep (.inr ⟨c1, by omega⟩))) ⟨rfl, rfl, rfl, rfl, i64_eq (wrap_succ (by omega)), trivial⟩ ⟨rfl, trivial⟩

theorem cycle_enters : Enters Tryd.prog 46 := enters_mk Tryd.func46 (by decide) rfl

theorem cyc_len {R : Rl} {l : List Nat} (h : IsCyc R (some l)) : l.length ≤ 64 := by
  rcases h with ⟨h, _⟩ | ⟨g, k, e, h1, h2, _⟩
  · cases h
  · obtain rfl := Option.some.inj e
    have := dist_le R g g
    rw [distR_at (k := k + 1) (by omega) h1 (fun m hm hl => h2 g m hm hl)] at this
    rw [List.length_cons, pathR_length]
    exact this

/-- A list goes on well, behind what is done. -/
def goodL (A : Rl) (n : Nat) : BitVec 64 → List Nat → Prop
  | _, [] => True
  | dn, i :: t => i < n ∧ rdyB A dn i = true ∧ goodL A n (dn ||| 1#64 <<< i) t

theorem extL_mem (A : Rl) (n : Nat) : ∀ (d : Nat) (l : List Nat) (dn : BitVec 64) (x : List Nat), x ∈ extL A n d l dn ↔ ∃ t, x = l ++ t ∧ t.length = d ∧ goodL A n dn t
  | 0, l, dn, x => by
    rw [extL, List.mem_singleton]
    constructor
    · rintro rfl; exact ⟨[], by simp, rfl, trivial⟩
    · rintro ⟨t, h1, h2, _⟩
      rw [h1, List.length_eq_zero_iff.1 h2, List.append_nil]
  | d + 1, l, dn, x => by
    rw [extL, List.mem_flatMap]
    constructor
    · rintro ⟨i, hi, hx⟩
      by_cases c : rdyB A dn i = true
      · rw [if_pos c, extL_mem A n d] at hx
        obtain ⟨t, rfl, h2, h3⟩ := hx
        exact ⟨i :: t, by simp, by simp [h2], List.mem_range.1 hi, c, h3⟩
      · rw [if_neg c] at hx; cases hx
    · rintro ⟨t, rfl, h2, h3⟩
      rcases t with _ | ⟨i, t⟩
      · cases h2
      · refine ⟨i, List.mem_range.2 h3.1, ?_⟩
        rw [if_pos h3.2.1, extL_mem A n d]
        exact ⟨t, by simp, by simpa using h2, h3.2.2⟩

theorem rdyB_iff (A : Rl) (dn : BitVec 64) (i : Nat) : rdyB A dn i = true ↔ dn.getLsbD i = false ∧ ∀ j, A.has i j = true → dn.getLsbD j = true := by
  unfold rdyB
  rw [Bool.and_eq_true, Bool.not_eq_true', decide_eq_true_eq]
  refine and_congr_right fun _ => ?_
  constructor
  · intro h j hj
    have h64 := (Rl.has_lt A hj).2
    have := congrArg (fun z : BitVec 64 => z.getLsbD j) h
    simp only [BitVec.getLsbD_and, BitVec.getLsbD_not, BitVec.getLsbD_zero] at this
    have hj' : (A.row i).getLsbD j = true := hj
    rw [hj', decide_eq_true h64] at this
    simpa using this
  · intro h
    apply BitVec.eq_of_getLsbD_eq
    intro j hj
    rw [BitVec.getLsbD_and, BitVec.getLsbD_not, BitVec.getLsbD_zero, decide_eq_true hj]
    cases hv : (A.row i).getLsbD j with
    | false => rfl
    | true => rw [h j hv]; rfl

theorem aheadL_has {r : Rl} (hr : Rt r) (a b : Nat) : (aheadL r).has a b = true ↔ r.has b a = true := by
  have : aheadL r = invR r := by
    unfold aheadL
    rw [hr.right]
    have := inverse_eq r
    rw [hr.right] at this
    exact this
  rw [this, invR_has]

/-! ### There is one -/

theorem count_one (p q : Nat → Bool) (i : Nat) (hp : p i = true) (hq : q i = false) (he : ∀ j, j ≠ i → q j = p j) : ∀ n, i < n → (List.range n).countP q + 1 = (List.range n).countP p
  | 0, h => absurd h (Nat.not_lt_zero _)
  | n + 1, h => by
    rw [List.range_succ, List.countP_append, List.countP_append, List.countP_singleton, List.countP_singleton]
    rcases Nat.lt_or_ge i n with hl | hl
    · have := count_one p q i hp hq he n hl
      rw [he n (by omega)]
      omega
    · obtain rfl : i = n := by omega
      rw [hp, hq]
      have : (List.range i).countP q = (List.range i).countP p := List.countP_congr fun j hj => by
        rw [he j (by have := List.mem_range.1 hj; omega)]
      rw [this]; rfl

theorem count_lt (p q : Nat → Bool) (i : Nat) (hp : p i = true) (hq : q i = false) (hs : ∀ j, q j = true → p j = true) (n : Nat) (h : i < n) : (List.range n).countP q < (List.range n).countP p := by
  have h1 := count_one p (fun j => p j && decide (j ≠ i)) i hp (by simp) (fun j hj => by simp [hj]) n h
  have h2 : (List.range n).countP q ≤ (List.range n).countP (fun j => p j && decide (j ≠ i)) := List.countP_mono_left fun j _ hj => by
    rw [hs j hj, Bool.true_and, decide_eq_true_eq]
    rintro rfl
    rw [hq] at hj; cases hj
  omega

/-- Of those that are not done one has nothing undone ahead of it. -/
theorem first_ex {R : Rl} (hR : Rt R) {n : Nat} (hn : R.n = (n : Int)) (hac : irB (clos R) = true) (dn : BitVec 64) {i0 : Nat} (h0 : i0 < n) (hd : dn.getLsbD i0 = false) : ∃ i, i < n ∧ rdyB (aheadL R) dn i = true := by
  have hir : ∀ a, ¬ (clos R).has a a = true := fun a h => by rw [irB_false h] at hac; cases hac
  obtain ⟨m, ⟨i, hi, hdi, hm⟩, hmin⟩ := least_ex (fun m => ∃ i, i < n ∧ dn.getLsbD i = false ∧ (List.range n).countP (fun j => !dn.getLsbD j && (clos R).has j i) = m) ⟨_, i0, h0, hd, rfl⟩
  refine ⟨i, hi, (rdyB_iff _ _ _).2 ⟨hdi, fun j hj => ?_⟩⟩
  have hji := (aheadL_has hR i j).1 hj
  cases hdj : dn.getLsbD j with
  | true => rfl
  | false =>
    exfalso
    have hjn : j < n := by have := (hR.lt _ _ hji).1; omega
    have hc := clos_sub hR _ _ hji
    refine hmin _ ?_ ⟨j, hjn, hdj, rfl⟩
    rw [← hm]
    refine count_lt _ _ j ?_ ?_ ?_ n hjn
    · simp [hdj, hc]
    · simp [hdj, hir j]
    · intro z hz
      rw [Bool.and_eq_true] at hz ⊢
      exact ⟨hz.1, clos_trans hR _ _ _ hz.2 hc⟩

theorem good_ex {R : Rl} (hR : Rt R) {n : Nat} (hn : R.n = (n : Int)) (hac : irB (clos R) = true) : ∀ (d : Nat) (dn : BitVec 64), (List.range n).countP (fun j => !dn.getLsbD j) = d → ∃ t, t.length = d ∧ goodL (aheadL R) n dn t
  | 0, _, _ => ⟨[], rfl, trivial⟩
  | d + 1, dn, h => by
    have h64 : n ≤ 64 := by have := hR.hi; omega
    obtain ⟨i0, hi0, hp⟩ := List.countP_pos_iff.1 (show 0 < (List.range n).countP (fun j => !dn.getLsbD j) by omega)
    obtain ⟨i, hi, hr⟩ := first_ex hR hn hac dn (List.mem_range.1 hi0) (by simpa using hp)
    have hdi := ((rdyB_iff _ _ _).1 hr).1
    obtain ⟨t, h1, h2⟩ := good_ex hR hn hac d (dn ||| 1#64 <<< i) (by
      have := count_one (fun j => !dn.getLsbD j) (fun j => !(dn ||| 1#64 <<< i).getLsbD j) i (by simp [hdi]) (by rw [BitVec.getLsbD_or, one_shl_get i i (by omega)]; simp) (fun j hj => by rw [BitVec.getLsbD_or, one_shl_get i j (by omega), decide_eq_false hj, Bool.or_false]) n hi
      omega)
    exact ⟨i :: t, by simp [h1], hi, hr, h2⟩

theorem orders_ex {R : Rl} (hR : Rt R) (hac : irB (clos R) = true) : ordersL R ≠ [] := by
  intro h
  have hn : R.n = (R.n.toNat : Int) := by have := hR.lo; omega
  obtain ⟨t, h1, h2⟩ := good_ex hR hn hac R.n.toNat 0#64 (by
    rw [List.countP_eq_length.2 (fun j _ => by simp)]; simp)
  have hm : t ∈ ordersL R := by
    rw [ordersL, hR.right, if_pos hac, sizeL, hR.right, extL_mem]
    exact ⟨t, by simp, h1, h2⟩
  rw [h] at hm; cases hm

theorem orders_good {R : Rl} (hR : Rt R) {x : List Nat} (hx : x ∈ ordersL R) : irB (clos R) = true ∧ x.length = R.n.toNat ∧ goodL (aheadL R) R.n.toNat 0#64 x := by
  rw [ordersL, hR.right] at hx
  by_cases c : irB (clos R) = true
  · rw [if_pos c, sizeL, hR.right, extL_mem] at hx
    obtain ⟨t, rfl, h1, h2⟩ := hx
    exact ⟨c, h1, h2⟩
  · rw [if_neg c] at hx; cases hx

theorem extend_some {R : Rl} (hR : Rt R) (hac : irB (clos R) = true) : ∃ x, extendL R = some x ∧ x.length = R.n.toNat ∧ goodL (aheadL R) R.n.toNat 0#64 x := by
  rw [extendL]
  cases h : ordersL R with
  | nil => exact absurd h (orders_ex hR hac)
  | cons x l => exact ⟨x, rfl, (orders_good hR (by rw [h]; exact List.mem_cons_self)).2⟩

theorem extend_none {R : Rl} (hR : Rt R) (hac : ¬ irB (clos R) = true) : extendL R = none := by
  rw [extendL, ordersL, hR.right, if_neg hac]; rfl

theorem ordersL_right (r : Rl) : ordersL (rightL r) = ordersL r := by
  unfold ordersL aheadL sizeL
  rw [rightL_idem]

theorem entSees' {w : World} {e : Ent} (h : EntAt w e) : SeesN w (some ⟨e.1, 0, none⟩) e.2.2 := seesN_row h

theorem slOf_eq' {w : World} {a : Addr} {e : Ent} (h : w.cell? a = some (slV e)) : Value.slice (slOf (w.cell? a)).1 (slOf (w.cell? a)).2.1 (slOf (w.cell? a)).2.2 = slV e := by rw [h]; rfl

def gX (s : List Ent) (G : List Nat) : Res := fun w fp => (∀ b, fp b ↔ b ∈ s.map (fun e => e.1) ∨ b ∈ G) ∧ (s.map fun e => e.1).Nodup ∧ ∀ j (h : j < s.length), EntAt w s[j] ∧ s[j].1 ∉ G

theorem ent_ne {s : List Ent} (hn : (s.map fun e => e.1).Nodup) {i j : Nat} (hi : i < s.length) (hj : j < s.length) (h : i ≠ j) : s[i].1 ≠ s[j].1 := fun e => by
  have := (List.pairwise_iff_getElem.1 hn)
  rcases Nat.lt_or_ge i j with h1 | h1
  · have := this i j (by simpa using hi) (by simpa using hj) h1
    simp only [List.getElem_map] at this
    exact this e
  · have := this j i (by simpa using hj) (by simpa using hi) (by omega)
    simp only [List.getElem_map] at this
    exact this e.symm

def setE (s : List Ent) (i k v : Nat) (h : i < s.length) : List Ent := s.set i (s[i].1, s[i].2.1, s[i].2.2.set k v)

theorem setE_len {s : List Ent} {i k v : Nat} (h : i < s.length) : (setE s i k v h).length = s.length := by simp [setE]

theorem setE_at {s : List Ent} {i k v : Nat} (h : i < s.length) (j : Nat) (hj : j < (setE s i k v h).length) : (setE s i k v h)[j] = if i = j then (s[i].1, s[i].2.1, s[i].2.2.set k v) else s[j]'(by rwa [setE_len] at hj) := by
  exact List.getElem_set (by rw [setE_len] at hj; simpa using hj)

theorem seesL_agree {S : Nat → Prop} {w w' : World} {p : Option Addr} {s : List Ent} (h : SeesL w p s) (hA : Agree S w w') (hp : ∀ a, p = some a → ¬ S a.block) (he : ∀ e ∈ s, ¬ S e.1) : SeesL w' p s :=
  ⟨fun i hi => ⟨(h.1 i hi).1, hA.cell (h.1 i hi).2 (by rw [add_block]; exact hp _ (h.1 i hi).1)⟩, fun e hm => BlkAt.same (h.2 e hm) (hA.block _ (h.2 e hm).lt (he e hm))⟩

theorem extend_len {r : Rl} {l : List Nat} (h : extendL r = some l) : l.length ≤ 64 := by
  have h1 : l ∈ ordersL (rightL r) := by
    rw [ordersL_right]
    unfold extendL at h
    cases ho : ordersL r with
    | nil => rw [ho] at h; cases h
    | cons a t => rw [ho] at h; simp at h; subst h; simp
  have := (orders_good (rt_right r) h1).2.1
  have h2 := (rt_right r).hi
  omega

/-- Extend, its answer as old memory. -/
theorem extendP_ok (r : Rl) (w : World) (hT : TabAt w) (h0 : 0 < w.heap.size) : GivesR Tryd.prog 48 [encRel r] w (fun v w' => Agree (fun _ => False) w w' ∧ ∃ (p : Option Addr) (l : List Nat) (c : Nat) (b : Bool), v = .tuple #[.slice p l.length c, .bool b] ∧ extendL r = (if b then some l else none) ∧ (b = false → l = []) ∧ SeesN w' p l ∧ ∀ a, p = some a → w.heap.size ≤ a.block) := by
  refine Calls.mono' (extend_ok r w hT h0) fun e w' ⟨v, h1, hh⟩ => ⟨v, h1, hh.agree, ?_⟩
  obtain ⟨M, hv, hb, _⟩ := hh.ex
  cases hE : extendL r with
  | none =>
    rw [hE] at hv
    exact ⟨none, [], 0, false, by rw [← hv]; simp [exZ, conc, concL], rfl, fun _ => rfl, seesN_nil w' none, fun a h => (by cases h)⟩
  | some x =>
    rw [hE] at hv hb
    have h2 := hb 0 _ rfl
    refine ⟨some ⟨(M 0).1, 0, none⟩, x, (M 0).2, true, by rw [← hv]; simp [exZ, conc, concL], rfl, fun h => (by cases h), seesN_row h2.1, fun a h => ?_⟩
    cases h; exact h2.2

theorem ext_same {o : Option (List Nat)} {l1 l2 : List Nat} {b1 b2 : Bool} (h1 : o = if b1 then some l1 else none) (h2 : o = if b2 then some l2 else none) (z1 : b1 = false → l1 = []) (z2 : b2 = false → l2 = []) : b1 = b2 ∧ l1 = l2 := by
  cases b1 <;> cases b2 <;> simp_all

/-- A list that stands still. -/
def KeepN (w : World) (S : Foot) (p : Option Addr) (l : List Nat) : Prop := SeesN w p l ∧ (l ≠ [] → ∀ a, p = some a → ¬ S a.block)

theorem KeepN.new {w0 w w1 : World} {S0 S1 : Foot} {p : Option Addr} {l : List Nat} (h : SeesN w1 p l) (hn : ∀ a, p = some a → w.heap.size ≤ a.block) (hS : Since w0 S0 w S1) : KeepN w1 S1 p l := ⟨h, fun _ a ha => hS.new _ (hn a ha)⟩

theorem KeepN.at {w w' : World} {S : Foot} {p : Option Addr} {l : List Nat} (h : KeepN w S p l) (hA : Agree S w w') : SeesN w' p l := by
  cases l with
  | nil => exact seesN_nil w' p
  | cons x l => exact h.1.agree hA (h.2 (by simp))

theorem KeepN.call {w0 w w1 : World} {S0 S1 : Foot} {p : Option Addr} {l : List Nat} (h : KeepN w0 S0 p l) (hA : Agree S0 w0 w) (hA2 : Agree (fun _ => False) w w1) (hS : Since w0 S0 w S1) : KeepN w1 S1 p l := by
  refine ⟨(h.at hA).agree hA2 (fun _ _ h => h), fun hne a ha => ?_⟩
  cases l with
  | nil => exact absurd rfl hne
  | cons x l =>
    have h1 := (h.1 0 (by simp)).2
    rw [ha, Option.getD_some] at h1
    have h2 := World.block_lt_of_cell? w0 _ h1
    rw [add_block] at h2
    exact hS.old _ h2 (h.2 hne a ha)

def KeepL (w : World) (S : Foot) (p : Option Addr) (s : List Ent) : Prop := SeesL w p s ∧ (s ≠ [] → ∀ a, p = some a → ¬ S a.block) ∧ ∀ e ∈ s, ¬ S e.1

theorem KeepL.lt {w : World} {S : Foot} {p : Option Addr} {s : List Ent} (h : KeepL w S p s) (hne : s ≠ []) {a : Addr} (ha : p = some a) : a.block < w.heap.size := by
  cases s with
  | nil => exact absurd rfl hne
  | cons x s =>
    have h1 := (h.1.1 0 (by simp)).2
    rw [ha, Option.getD_some] at h1
    have h2 := World.block_lt_of_cell? w _ h1
    rwa [add_block] at h2

theorem KeepL.to {w0 w1 : World} {S0 S1 : Foot} {p : Option Addr} {s : List Ent} (h : KeepL w0 S0 p s) (h1 : SeesL w1 p s) (hS : ∀ b, b < w0.heap.size → ¬ S0 b → ((∃ e ∈ s, e.1 = b) ∨ ∃ a, p = some a ∧ a.block = b) → ¬ S1 b) : KeepL w1 S1 p s :=
  ⟨h1, fun hne a ha => hS _ (h.lt hne ha) (h.2.1 hne a ha) (.inr ⟨a, ha, rfl⟩), fun e he => hS _ (h.1.2 e he).lt (h.2.2 e he) (.inl ⟨e, he, rfl⟩)⟩

/-- The lists while they are written: all up to one hold their own number. -/
def Wr (s cur : List Ent) (i : Nat) : Prop := cur.length = s.length ∧ ∀ j (h : j < s.length) (h' : j < cur.length), cur[j].1 = s[j].1 ∧ cur[j].2.1 = s[j].2.1 ∧ cur[j].2.2.length = s[j].2.2.length ∧ (j < i → ∀ k (hk : k < cur[j].2.2.length), cur[j].2.2[k] = j)

theorem Wr.set {s cur : List Ent} {i k : Nat} (h : Wr s cur i) (hi : i < cur.length) : Wr s (setE cur i k i hi) i := by
  refine ⟨by rw [setE_len]; exact h.1, fun j hj hj' => ?_⟩
  have hjc : j < cur.length := by rwa [setE_len] at hj'
  obtain ⟨h1, h2, h3, h4⟩ := h.2 j hj hjc
  have e := setE_at (k := k) (v := i) hi j hj'
  rw [e]
  by_cases hij : i = j
  · subst hij
    rw [if_pos rfl]
    exact ⟨h1, h2, by simpa using h3, fun hlt => absurd hlt (Nat.lt_irrefl _)⟩
  · rw [if_neg hij]; exact ⟨h1, h2, h3, h4⟩

end Go.Proofs.YtmammebifhmnhaaDoor
