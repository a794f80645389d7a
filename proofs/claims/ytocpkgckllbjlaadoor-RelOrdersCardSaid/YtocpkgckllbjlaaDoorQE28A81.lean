/-
  Own work, merged: D0, D1, D2, D3, D4, AM22, AM23, AM24, E0, E1, E2.
-/
import Derived.AtR
import Derived.Below
import Derived.ChangeKeysEq
import Derived.KernelRfl
import Derived.LaidMore
import Derived.Laws.AppendOwn
import Derived.Laws.BytesString
import Derived.Laws.Cells
import Derived.Laws.CopyRow
import Derived.Laws.Entries
import Derived.Laws.Rows
import Derived.Laws.Small
import Derived.Laws.StructEq
import Derived.Lib.LaidTab
import Derived.Lib.TrailingZeros
import Derived.Maps.AppendAt
import Derived.OpenShut
import Derived.Orders
import Derived.ProofKit
import Derived.RangeFuncRecord
import Derived.SevenTiedAt
import Derived.Stop.Joined
import Derived.Test.YtocpkgckllbjlaaDoorCards
import Derived.Test.YtocpkgckllbjlaaDoorProg
import Derived.Test.YtocpkgckllbjlaaDoorRows
import Derived.Test.YtocpkgckllbjlaaDoorTie
import Derived.Test.YtocpkgckllbjlaaDoorQ60A969
/-
  Closures of relations: plain laws. Own work.
-/
namespace Go.Proofs.YtocpkgckllbjlaaDoor
open Go.AM Relation
set_option maxRecDepth 100000

/-- The pairs of a relation. -/
abbrev Pr (R : Rl) : Nat → Nat → Prop := fun a b => R.has a b = true

/-- Right, in one: bounds and pairs. -/
structure Rt (R : Rl) : Prop where
  lo : 0 ≤ R.n
  hi : R.n ≤ 64
  lt : ∀ a b, R.has a b = true → (a : Int) < R.n ∧ (b : Int) < R.n

theorem Rt.right {R : Rl} (h : Rt R) : rightL R = R := by
  refine rightL_of _ ?_
  unfold checkI
  have hg : ∀ i, i < 64 → good R i = true := fun i hi => (good_iff R i h.lo).2 fun b hb ⟨h1, h2⟩ => by have := h.lt i b h1; omega
  have hlo := h.lo
  have hhi := h.hi
  rw [if_neg (by omega), if_pos hg]

theorem rt_of {R : Rl} (h : rightL R = R) : Rt R := by
  have hn := rightL_n R
  rw [h] at hn
  exact ⟨hn.1, hn.2, fun a b hb => by have := right_has R a b (by rw [h]; exact hb); rwa [h] at this⟩
theorem rt_right (r : Rl) : Rt (rightL r) := rt_of (rightL_idem r)

theorem twoL_rt {R S : Rl} (hR : Rt R) (hS : Rt S) (hn : R.n = S.n) : twoL R S = (R, S) := by
  unfold twoL
  rw [hR.right, hS.right, if_pos hn]

theorem twoR_n (op : Nat) {R S : Rl} (hR : Rt R) (hS : Rt S) (hn : R.n = S.n) : (twoR op R S).n = R.n := by
  unfold twoR; rw [twoL_rt hR hS hn]; exact Rl.n_gen _ _
theorem twoR_has (op : Nat) {R S : Rl} (hR : Rt R) (hS : Rt S) (hn : R.n = S.n) (x y : Nat) : (twoR op R S).has x y = pTwo op R S x y := by
  unfold twoR
  rw [twoL_rt hR hS hn, Rl.has_gen]
  cases h : pTwo op R S x y with
  | false => simp
  | true =>
    have := pTwo_lt op R S hR.right hS.right hn x y h
    have h2 := hR.hi
    rw [decide_eq_true (by omega)]; rfl
theorem twoR_rt (op : Nat) {R S : Rl} (hR : Rt R) (hS : Rt S) (hn : R.n = S.n) : Rt (twoR op R S) := by
  have h1 := twoR_n op hR hS hn
  refine ⟨by rw [h1]; exact hR.lo, by rw [h1]; exact hR.hi, fun a b h => ?_⟩
  rw [h1]
  rw [twoR_has op hR hS hn] at h
  exact pTwo_lt op R S hR.right hS.right hn a b h

theorem twoR_right (op : Nat) (r s : Rl) : twoR op r s = twoR op (rightL r) (rightL s) := by
  unfold twoR twoL
  rw [rightL_idem, rightL_idem]

theorem comp_has {R S : Rl} (hR : Rt R) (hS : Rt S) (hn : R.n = S.n) (x y : Nat) : (twoR 3 R S).has x y = true ↔ ∃ c, R.has x c = true ∧ S.has c y = true := by
  rw [twoR_has 3 hR hS hn]
  unfold pTwo
  simp only [List.any_eq_true, List.mem_range, Bool.and_eq_true]
  constructor
  · rintro ⟨c, _, h⟩; exact ⟨c, h⟩
  · rintro ⟨c, h⟩; exact ⟨c, by have := hR.lt _ _ h.1; omega, h⟩

theorem union_has {R S : Rl} (hR : Rt R) (hS : Rt S) (hn : R.n = S.n) (x y : Nat) : (twoR 0 R S).has x y = true ↔ R.has x y = true ∨ S.has x y = true := by
  rw [twoR_has 0 hR hS hn]
  unfold pTwo
  simp

open Classical in
/-- The closure. -/
noncomputable def clos (R : Rl) : Rl := Rl.gen R.n fun a b => decide (TransGen (Pr R) a b)

theorem trans_lt {R : Rl} (hR : Rt R) {a b : Nat} (h : TransGen (Pr R) a b) : (a : Int) < R.n ∧ (b : Int) < R.n := by
  induction h with
  | single h => exact hR.lt _ _ h
  | tail _ h ih => exact ⟨ih.1, (hR.lt _ _ h).2⟩

theorem clos_n (R : Rl) : (clos R).n = R.n := by unfold clos; exact Rl.n_gen _ _
theorem clos_has {R : Rl} (hR : Rt R) (a b : Nat) : (clos R).has a b = true ↔ TransGen (Pr R) a b := by
  unfold clos
  rw [Rl.has_gen]
  have h2 := hR.hi
  constructor
  · intro h; simp at h; exact h.2
  · intro h
    have := trans_lt hR h
    simp [h]; omega
theorem clos_rt {R : Rl} (hR : Rt R) : Rt (clos R) := ⟨by rw [clos_n]; exact hR.lo, by rw [clos_n]; exact hR.hi, fun a b h => by rw [clos_n]; exact trans_lt hR ((clos_has hR a b).1 h)⟩

theorem clos_in {f g : Nat → Nat → Prop} (h1 : ∀ a b, f a b → g a b) (h3 : ∀ a b c, g a b → g b c → g a c) {a b : Nat} (h : TransGen f a b) : g a b := by
  induction h with
  | single h => exact h1 _ _ h
  | tail _ h ih => exact h3 _ _ _ ih (h1 _ _ h)

/-- What holds the relation, is held by its paths and is transitive is the closure. -/
theorem clos_of {R S : Rl} (hR : Rt R) (hn : S.n = R.n) (h1 : ∀ a b, R.has a b = true → S.has a b = true) (h2 : ∀ a b, S.has a b = true → TransGen (Pr R) a b)
    (h3 : ∀ a b c, S.has a b = true → S.has b c = true → S.has a c = true) : S = clos R := by
  apply Rl.ext_has
  · rw [hn, clos_n]
  · intro a b _ _
    rw [Bool.eq_iff_iff, clos_has hR]
    exact ⟨h2 a b, fun h => clos_in h1 h3 h⟩

theorem TransGen_trans {r : Nat → Nat → Prop} {a b c : Nat} (h1 : TransGen r a b) (h2 : TransGen r b c) : TransGen r a c := by
  induction h2 with
  | single h => exact .tail h1 h
  | tail _ h ih => exact .tail ih h

/-! ### The reference's way: add the composition until nothing is new. -/
noncomputable def more (S : Rl) : Rl := twoR 0 S (twoR 3 S S)
theorem more_n {S : Rl} (hS : Rt S) : (more S).n = S.n := by
  unfold more
  rw [twoR_n 0 hS (twoR_rt 3 hS hS rfl) (twoR_n 3 hS hS rfl).symm]
theorem more_rt {S : Rl} (hS : Rt S) : Rt (more S) := twoR_rt 0 hS (twoR_rt 3 hS hS rfl) (twoR_n 3 hS hS rfl).symm
theorem more_has {S : Rl} (hS : Rt S) (x y : Nat) : (more S).has x y = true ↔ S.has x y = true ∨ ∃ c, S.has x c = true ∧ S.has c y = true := by
  unfold more
  rw [union_has hS (twoR_rt 3 hS hS rfl) (twoR_n 3 hS hS rfl).symm, comp_has hS hS rfl]

def missing (S : Rl) : Nat := (List.range 4096).countP fun p => !S.has (p / 64) (p % 64)

theorem countP_lt {α : Type} {p q : α → Bool} : ∀ {l : List α}, (∀ x ∈ l, q x = true → p x = true) → (∃ x ∈ l, p x = true ∧ q x = false) → l.countP q < l.countP p
  | [], _, ⟨x, hx, _⟩ => by cases hx
  | y :: l, h, ⟨x, hx, h1, h2⟩ => by
    have hle : ∀ l : List α, (∀ x ∈ l, q x = true → p x = true) → l.countP q ≤ l.countP p := fun l h => List.countP_mono_left h
    rw [List.countP_cons, List.countP_cons]
    rcases List.mem_cons.1 hx with rfl | hx
    · have := hle l (fun x hx => h x (List.mem_cons_of_mem _ hx))
      simp [h1, h2]; omega
    · have := countP_lt (l := l) (fun x hx => h x (List.mem_cons_of_mem _ hx)) ⟨x, hx, h1, h2⟩
      by_cases hq : q y = true
      · have := h y (List.mem_cons_self ..) hq
        simp [hq, this]; omega
      · simp [hq]; omega

theorem more_missing {S : Rl} (hS : Rt S) (h : more S ≠ S) : missing (more S) < missing S := by
  unfold missing
  apply countP_lt
  · intro p _ hp
    simp only [Bool.not_eq_true'] at hp ⊢
    cases hb : S.has (p / 64) (p % 64) with
    | false => rfl
    | true => rw [(more_has hS _ _).2 (.inl hb)] at hp; cases hp
  · by_cases hx : ∃ x y, x < 64 ∧ y < 64 ∧ (more S).has x y = true ∧ S.has x y = false
    · obtain ⟨x, y, h1, h2, h3, h4⟩ := hx
      refine ⟨x * 64 + y, List.mem_range.2 (by omega), ?_⟩
      have e1 : (x * 64 + y) / 64 = x := by omega
      have e2 : (x * 64 + y) % 64 = y := by omega
      simp [e1, e2, h3, h4]
    · exfalso
      apply h
      apply Rl.ext_has
      · exact more_n hS
      · intro a b ha hb
        cases h1 : S.has a b with
        | true => exact (more_has hS _ _).2 (.inl h1)
        | false =>
          cases h2 : (more S).has a b with
          | false => rfl
          | true => exact absurd ⟨a, b, ha, hb, h2, h1⟩ hx

theorem more_fix {R S : Rl} (hR : Rt R) (hS : Rt S) (hn : S.n = R.n) (h1 : ∀ a b, R.has a b = true → S.has a b = true) (h2 : ∀ a b, S.has a b = true → TransGen (Pr R) a b) (h : more S = S) : S = clos R :=
  clos_of hR hn h1 h2 fun a b c ha hb => by rw [← h]; exact (more_has hS a c).2 (.inr ⟨b, ha, hb⟩)

theorem more_in {R S : Rl} (hS : Rt S) (h2 : ∀ a b, S.has a b = true → TransGen (Pr R) a b) : ∀ a b, (more S).has a b = true → TransGen (Pr R) a b := fun a b h => by
  rcases (more_has hS a b).1 h with h | ⟨c, h, h'⟩
  · exact h2 _ _ h
  · exact TransGen_trans (h2 _ _ h) (h2 _ _ h')

/-! ### The code's way: number by number. -/
/-- After k rows of the round for i. -/
def warP (R : Rl) (i k : Nat) : Rl := Rl.by_ R.n fun x => if x < k ∧ R.has x i = true then R.row x ||| R.row i else R.row x
theorem warP_n (R : Rl) (i k : Nat) : (warP R i k).n = R.n := by unfold warP; exact Rl.n_by _ _
theorem warP_0 (R : Rl) (i : Nat) : warP R i 0 = R := by
  unfold warP
  conv => rhs; rw [← by_row R]
  exact Rl.by_congr fun x _ => by simp
theorem warP_row {R : Rl} {i k x : Nat} (hx : x < 64) : (warP R i k).row x = if x < k ∧ R.has x i = true then R.row x ||| R.row i else R.row x := by
  unfold warP; rw [Rl.row_by, if_pos hx]
theorem warP_self {R : Rl} {i k : Nat} (hi : i < 64) : (warP R i k).row i = R.row i := by
  rw [warP_row hi]; split
  · simp
  · rfl
theorem warP_at {R : Rl} {i k : Nat} (hk : k < 64) : (warP R i k).row k = R.row k := by
  rw [warP_row hk, if_neg (by omega)]
theorem warP_bit {R : Rl} {i k : Nat} (hk : k < 64) : (warP R i k).has k i = R.has k i := by
  rw [Rl.has, warP_at hk]; rfl
theorem warP_yes {R : Rl} {i k : Nat} (hi : i < 64) (hk : k < 64) (h : R.has k i = true) : (warP R i k).setRow k ((warP R i k).row k ||| (warP R i k).row i) = warP R i (k + 1) := by
  rw [warP_at hk, warP_self hi]
  unfold warP
  rw [Rl.set_by]
  refine Rl.by_congr fun x _ => ?_
  by_cases e : k = x
  · subst e; simp [h]
  · rw [if_neg e]
    have : (x < k ∧ R.has x i = true) ↔ (x < k + 1 ∧ R.has x i = true) := by constructor <;> rintro ⟨h1, h2⟩ <;> exact ⟨by omega, h2⟩
    simp only [this]
theorem warP_no {R : Rl} {i k : Nat} (h : R.has k i = false) : warP R i k = warP R i (k + 1) := by
  unfold warP
  refine Rl.by_congr fun x _ => ?_
  by_cases e : k = x
  · subst e; simp [h]
  · have : (x < k ∧ R.has x i = true) ↔ (x < k + 1 ∧ R.has x i = true) := by constructor <;> rintro ⟨h1, h2⟩ <;> exact ⟨by omega, h2⟩
    simp only [this]

theorem warP_has {R : Rl} (hR : Rt R) {i k : Nat} (hk : R.n ≤ (k : Int)) (x y : Nat) : (warP R i k).has x y = true ↔ R.has x y = true ∨ (R.has x i = true ∧ R.has i y = true) := by
  have h2 := hR.hi
  by_cases hx : x < 64
  · rw [Rl.has, warP_row hx]
    split
    · rename_i h
      rw [BitVec.getLsbD_or, Bool.or_eq_true]
      constructor
      · rintro (h' | h')
        · exact .inl h'
        · exact .inr ⟨h.2, h'⟩
      · rintro (h' | h')
        · exact .inl h'
        · exact .inr h'.2
    · rename_i h
      constructor
      · exact fun h' => .inl h'
      · rintro (h' | h')
        · exact h'
        · exact absurd ⟨by have := hR.lt _ _ h'.1; omega, h'.1⟩ h
  · have h3 : ∀ S : Rl, ∀ z, S.has x z = false := fun S z => by rw [Rl.has, Rl.row_ge _ (by omega)]; simp
    rw [h3, h3, h3]; simp

theorem warP_rt {R : Rl} (hR : Rt R) {i k : Nat} (hk : R.n ≤ (k : Int)) : Rt (warP R i k) := ⟨by rw [warP_n]; exact hR.lo, by rw [warP_n]; exact hR.hi, fun a b h => by
  rw [warP_n]
  rcases (warP_has hR hk a b).1 h with h | ⟨h, h'⟩
  · exact hR.lt _ _ h
  · exact ⟨(hR.lt _ _ h).1, (hR.lt _ _ h').2⟩⟩

/-- What holds after i rounds. -/
structure WarAt (R S : Rl) (i : Nat) : Prop where
  rt : Rt S
  n : S.n = R.n
  has : ∀ a b, R.has a b = true → S.has a b = true
  path : ∀ a b, S.has a b = true → TransGen (Pr R) a b
  trans : ∀ a b k, k < i → S.has a k = true → S.has k b = true → S.has a b = true

theorem WarAt.start {R : Rl} (hR : Rt R) : WarAt R R 0 := ⟨hR, rfl, fun _ _ h => h, fun _ _ h => .single h, fun _ _ _ h => by omega⟩
theorem war_trans {f g : Nat → Nat → Prop} {i : Nat} (hh : ∀ x y, g x y ↔ f x y ∨ (f x i ∧ f i y)) (ht : ∀ a b k, k < i → f a k → f k b → f a b) (a b j : Nat) (hj : j < i + 1) (h1 : g a j) (h2 : g j b) : g a b := by
  refine (hh a b).2 ?_
  by_cases e : j = i
  · subst e
    refine .inr ⟨?_, ?_⟩
    · rcases (hh a j).1 h1 with h1 | ⟨h1, _⟩ <;> exact h1
    · rcases (hh j b).1 h2 with h2 | ⟨_, h2⟩ <;> exact h2
  · have hj : j < i := by omega
    rcases (hh a j).1 h1 with h1 | ⟨h1, h1'⟩
    · rcases (hh j b).1 h2 with h2 | ⟨h2, h2'⟩
      · exact .inl (ht a b j hj h1 h2)
      · exact .inr ⟨ht a i j hj h1 h2, h2'⟩
    · rcases (hh j b).1 h2 with h2 | ⟨h2, h2'⟩
      · exact .inr ⟨h1, ht i b j hj h1' h2⟩
      · exact .inr ⟨h1, h2'⟩

theorem WarAt.next {R S : Rl} {i k : Nat} (h : WarAt R S i) (hk : S.n ≤ (k : Int)) : WarAt R (warP S i k) (i + 1) := by
  have hh := fun x y => warP_has h.rt (i := i) hk x y
  refine ⟨warP_rt h.rt hk, (warP_n _ _ _).trans h.n, fun a b h1 => (hh a b).2 (.inl (h.has a b h1)), fun a b h1 => ?_, war_trans (f := Pr S) (g := Pr (warP S i k)) hh h.trans⟩
  rcases (hh a b).1 h1 with h1 | ⟨h1, h2⟩
  · exact h.path _ _ h1
  · exact TransGen_trans (h.path _ _ h1) (h.path _ _ h2)
theorem WarAt.done {R S : Rl} {i : Nat} (hR : Rt R) (h : WarAt R S i) (hi : R.n ≤ (i : Int)) : S = clos R :=
  clos_of hR h.n h.has h.path fun a b c h1 h2 => h.trans a c b (by have := h.rt.lt _ _ h1; rw [h.n] at this; omega) h1 h2
end Go.Proofs.YtocpkgckllbjlaaDoor

/-
  Plus, Opt, Star, Irreflexive, Acyclic, Transitive: the code's. Own work.
-/
namespace Go.Proofs.YtocpkgckllbjlaaDoor
open Go.AM
set_option maxRecDepth 100000

theorem bit1 (x : BitVec 64) (i : Nat) : (band .u64 (un (x >>> i)) 1 = 1) ↔ x.getLsbD i = true := by
  have h := bit_eq x (i : Int)
  rw [shr_un, Int.toNat_natCast, Bool.eq_iff_iff, beq_iff_eq] at h
  exact h

theorem plus_ok (r : Rl) (w : World) : Gives Tryd.prog 34 [encRel r] w (encRel (clos (rightL r))) := by
  refine Gives.of_run Tryd.func34 rfl (by show 1 ≤ 39; decide) ?_
  refine RunF_sound tab_ok noX_local 100 [] _ _ rfl ?_ ?_
  · simp
  refine Run.callFn noX_local rfl rfl rfl rfl rfl rfl rfl right_enters rfl (fun w' _ => right_ok r w') ?_
  have hR := rt_right r
  generalize rightL r = R at hR
  have hlo := hR.lo
  have hhi := hR.hi
  refine RunF_sound tab_ok noX_local 100 [] _ _ rfl ?_ ?_
  · simp [segsVals, relV_one']
  suffices H : ∀ (d i : Nat) (S : Rl), (i : Int) + d = R.n → WarAt R S i → ∀ σ, inT σ.t [(1, .ptr 0 0), (2, .ptr 1 0), (8, .v (.int .i64 R.n)), (9, .v (.int .i64 (i : Int)))] →
      inT σ.h [(0, .cells 25 [.vals 65 (relV S)]), (1, .cells 25 [.vals 65 (relV (Rl.void 0))])] → Run _ _ σ by
    refine H R.n.toNat 0 R (by omega) (WarAt.start hR) _ ⟨rfl, rfl, ?_, rfl, trivial⟩ ⟨?_, rfl, trivial⟩
    · simp [lk]
    · simp [lk]
  intro d
  induction d with
  | zero =>
    intro i S hi hS σ ht hh
    refine Run.to ?_ ht hh (n' := 2)
    have hd := hS.done hR (by omega)
    refine RunF_sound tab_ok noX_local 100 [false] _ _ rfl ?_ ?_
    · simp [relV_one', segsVals]; omega
    · refine Run.retP tab_ok Tryd.func34 rfl ?_ (fun M => ?_)
      · simp
      rw [← hd]; rfl
  | succ d ih =>
    intro i S hi hS σ ht hh
    refine Run.to ?_ ht hh (n' := 2)
    have hi' : i < 64 := by omega
    have hSn := hS.n
    refine RunF_sound tab_ok noX_local 100 [true] _ _ rfl ?_ ?_
    · simp; omega
    suffices H2 : ∀ (e k : Nat), (k : Int) + e = R.n → ∀ σ, inT σ.t [(1, .ptr 0 0), (2, .ptr 1 0), (8, .v (.int .i64 R.n)), (9, .v (.int .i64 (i : Int))), (3, .v (.int .i64 (i : Int))), (13, .v (.int .i64 R.n)), (14, .v (.int .i64 (k : Int)))] →
        inT σ.h [(0, .cells 25 [.vals 65 (relV (warP S i k))]), (1, .cells 25 [.vals 65 (relV (Rl.void 0))])] → Run _ _ σ by
      refine H2 R.n.toNat 0 (by omega) _ ⟨rfl, rfl, rfl, rfl, rfl, ?_, rfl, trivial⟩ ⟨?_, rfl, trivial⟩
      · simp [lk, hSn]
      · rw [warP_0]; rfl
    intro e
    induction e with
    | zero =>
      intro k hk σ ht hh
      refine Run.to ?_ ht hh (n' := 2)
      refine RunF_sound tab_ok noX_local 100 [false] _ _ rfl ?_ ?_
      · simp; omega
      exact ih (i + 1) (warP S i k) (by omega) (hS.next (by omega)) _ ⟨rfl, rfl, rfl, i64_eq (wrap_succ (by omega)), trivial⟩ ⟨rfl, rfl, trivial⟩
    | succ e ihe =>
      intro k hk σ ht hh
      refine Run.to ?_ ht hh (n' := 2)
      have hk' : k < 64 := by omega
      have hb := bit1 (S.row k) i
      have hrow : (warP S i k).row k = S.row k := warP_at hk'
      by_cases c : (S.row k).getLsbD i = true
      · refine RunF_sound tab_ok noX_local 100 [true, true] _ _ rfl ?_ ?_
        · simp [relV_get _ _ hk', intAt_row _ _ hk', hrow, hb, c]; omega
        refine Run.drawA noX_local rfl [] [(0, .cells 25 [.vals 65 (relV (warP S i k))])] rfl rfl ⟨rfl, trivial⟩ ?_
        refine RunOF_sound tab_ok noX_local rfl rfl 11 [] _ _ rfl ?_ ?_
        · simp [relV_get _ _ hk', relV_get _ _ hi', intAt_row _ _ hk', intAt_row _ _ hi']; omega
        refine RunO.effLast tab_ok noX_local rfl rfl rfl rfl ?_ (fun e => by cases e) rfl ?_
        · simp [okCell, Value.oneCell']; omega
        refine RunF_sound tab_ok noX_local 100 [] _ _ rfl ?_ ?_
        · simp
        refine ihe (k + 1) (by omega) _ ⟨rfl, rfl, rfl, rfl, rfl, rfl, i64_eq (wrap_succ (by omega)), trivial⟩ ⟨congrArg (fun l => some (Blk.cells 25 [.vals 65 l])) ?_, rfl, trivial⟩
        have e1 : intAt (relV (warP S i k)) (1 + k) = un ((warP S i k).row k) := intAt_row _ _ hk'
        have e2 : intAt (relV (warP S i k)) (1 + i) = un ((warP S i k).row i) := intAt_row _ _ hi'
        simp [e1, e2, relV_set _ _ hk', warP_yes hi' hk' (show S.has k i = true from c)]
      · refine RunF_sound tab_ok noX_local 100 [true, false] _ _ rfl ?_ ?_
        · simp [relV_get _ _ hk', intAt_row _ _ hk', hrow, hb, c]; omega
        refine ihe (k + 1) (by omega) _ ⟨rfl, rfl, rfl, rfl, rfl, rfl, i64_eq (wrap_succ (by omega)), trivial⟩ ⟨?_, rfl, trivial⟩
        rw [← warP_no (show S.has k i = false by simpa [Rl.has] using c)]; rfl
theorem plus_enters : Enters Tryd.prog 34 := enters_mk Tryd.func34 (by decide) rfl

noncomputable def optL (r : Rl) : Rl := twoR 0 (rightL r) (onL (rightL r).n (mask (rightL r).n))

theorem opt_ok (r : Rl) (w : World) : Gives Tryd.prog 32 [encRel r] w (encRel (optL r)) := by
  refine Gives.of_run Tryd.func32 rfl (by show 1 ≤ 13; decide) ?_
  refine RunF_sound tab_ok noX_local 100 [] _ _ rfl ?_ ?_
  · simp
  refine Run.callFn noX_local rfl rfl rfl rfl rfl rfl rfl right_enters rfl (fun w' _ => right_ok r w') ?_
  have hR := rt_right r
  unfold optL
  generalize rightL r = R at hR
  have hlo := hR.lo
  obtain ⟨X, hX, hX2⟩ : ∃ X, X = twoR 0 R (onL R.n (mask R.n)) ∧ ∀ w', Gives Tryd.prog 21 [encRel R, encRel (onL R.n (mask R.n))] w' (encRel X) := ⟨_, rfl, fun w' => by rw [← union_eq]; exact union_ok _ _ w'⟩
  rw [← hX]
  refine RunF_sound tab_ok noX_local 100 [] _ _ rfl ?_ ?_
  · simp [segsVals, relV_one']
  refine Run.drawA noX_local rfl [] [(0, .cells 25 [.vals 65 (relV R)])] rfl rfl ⟨by simp [splice, lk], trivial⟩ ?_
  refine RunOF_sound tab_ok noX_local rfl rfl 200 [] _ _ rfl ?_ ?_
  · simp
  refine RunO.callFn noX_local rfl rfl rfl rfl rfl rfl rfl rfl whole_enters rfl (fun w' _ => whole_ok R.n w' hlo) ?_
  refine RunOF_sound tab_ok noX_local rfl rfl 200 [] _ _ rfl ?_ ?_
  · simp
  refine RunO.callFn noX_local rfl rfl rfl rfl rfl rfl rfl rfl on_enters rfl (fun w' _ => on_ok R.n (mask R.n) w') ?_
  refine RunOF_sound tab_ok noX_local rfl rfl 200 [] _ _ rfl ?_ ?_
  · simp
  refine RunO.callFn noX_local rfl rfl rfl rfl rfl rfl rfl rfl union_enters rfl (fun w' _ => hX2 w') ?_
  refine RunOF_sound tab_ok noX_local rfl rfl 200 [] _ _ rfl ?_ ?_
  · simp [segsVals, relV_one', inT, lk]
  refine RunO.done ?_
  refine RunF_sound tab_ok noX_local 100 [] _ _ rfl ?_ ?_
  · simp
  refine Run.retP tab_ok Tryd.func32 rfl ?_ (fun M => ?_)
  · simp
  rfl
theorem opt_enters : Enters Tryd.prog 32 := enters_mk Tryd.func32 (by decide) rfl

theorem star_ok (r : Rl) (w : World) : Gives Tryd.prog 36 [encRel r] w (encRel (optL (clos (rightL r)))) := by
  refine Gives.of_run Tryd.func36 rfl (by show 1 ≤ 6; decide) ?_
  refine RunF_sound tab_ok noX_local 100 [] _ _ rfl ?_ ?_
  · simp
  refine Run.callFn noX_local rfl rfl rfl rfl rfl rfl rfl plus_enters rfl (fun w' _ => plus_ok r w') ?_
  generalize clos (rightL r) = X
  refine RunF_sound tab_ok noX_local 100 [] _ _ rfl ?_ ?_
  · simp
  obtain ⟨Y, hY, hY2⟩ : ∃ Y, Y = optL X ∧ ∀ w', Gives Tryd.prog 32 [encRel X] w' (encRel Y) := ⟨_, rfl, fun w' => opt_ok X w'⟩
  rw [← hY]
  refine Run.callFn noX_local rfl rfl rfl rfl rfl rfl rfl opt_enters rfl (fun w' _ => hY2 w') ?_
  refine RunF_sound tab_ok noX_local 100 [] _ _ rfl ?_ ?_
  · simp [segsVals, relV_one']
  refine Run.retP tab_ok Tryd.func36 rfl ?_ (fun M => ?_)
  · simp
  rfl
theorem star_enters : Enters Tryd.prog 36 := enters_mk Tryd.func36 (by decide) rfl

open Classical in
/-- No number is before itself. -/
noncomputable def irB (R : Rl) : Bool := decide (∀ i, R.has i i = false)
open Classical in
theorem irB_true {R : Rl} (h : ∀ i, R.has i i = false) : irB R = true := by unfold irB; exact decide_eq_true h
open Classical in
theorem irB_false {R : Rl} {i : Nat} (h : R.has i i = true) : irB R = false := by unfold irB; exact decide_eq_false fun h' => by rw [h' i] at h; cases h

theorem irreflexive_ok (r : Rl) (w : World) : Gives Tryd.prog 42 [encRel r] w (.bool (irB (rightL r))) := by
  refine Gives.of_run Tryd.func42 rfl (by show 1 ≤ 20; decide) ?_
  refine RunF_sound tab_ok noX_local 100 [] _ _ rfl ?_ ?_
  · simp
  refine Run.callFn noX_local rfl rfl rfl rfl rfl rfl rfl right_enters rfl (fun w' _ => right_ok r w') ?_
  have hR := rt_right r
  generalize rightL r = R at hR
  have hlo := hR.lo
  have hhi := hR.hi
  refine RunF_sound tab_ok noX_local 100 [] _ _ rfl ?_ ?_
  · simp [segsVals, relV_one']
  suffices H : ∀ (d i : Nat), (i : Int) + d = R.n → (∀ j, j < i → R.has j j = false) → ∀ σ, inT σ.t [(1, .ptr 0 0), (7, .v (.int .i64 R.n)), (8, .v (.int .i64 (i : Int)))] →
      inT σ.h [(0, .cells 25 [.vals 65 (relV R)])] → Run _ _ σ by
    refine H R.n.toNat 0 (by omega) (fun j h => by omega) _ ⟨rfl, ?_, rfl, trivial⟩ ⟨?_, trivial⟩
    · simp [lk]
    · simp [lk]
  intro d
  induction d with
  | zero =>
    intro i hi hj σ ht hh
    refine Run.to ?_ ht hh (n' := 2)
    refine RunF_sound tab_ok noX_local 100 [false] _ _ rfl ?_ ?_
    · simp; omega
    · refine Run.retP tab_ok Tryd.func42 rfl trivial (fun M => ?_)
      have : irB R = true := irB_true fun j => by
        cases h : R.has j j with
        | false => rfl
        | true => have := hR.lt _ _ h; rw [hj j (by omega)] at h; cases h
      rw [this]; rfl
  | succ d ih =>
    intro i hi hj σ ht hh
    refine Run.to ?_ ht hh (n' := 2)
    have hi' : i < 64 := by omega
    have hb := bit1 (R.row i) i
    by_cases c : (R.row i).getLsbD i = true
    · refine RunF_sound tab_ok noX_local 100 [true, true] _ _ rfl ?_ ?_
      · simp [relV_get _ _ hi', intAt_row _ _ hi', hb, c]; omega
      refine Run.retP tab_ok Tryd.func42 rfl trivial (fun M => ?_)
      have : irB R = false := irB_false (i := i) c
      rw [this]; rfl
    · refine RunF_sound tab_ok noX_local 100 [true, false] _ _ rfl ?_ ?_
      · simp [relV_get _ _ hi', intAt_row _ _ hi', hb, c]; omega
      refine ih (i + 1) (by omega) (fun j h => ?_) _ ⟨rfl, rfl, i64_eq (wrap_succ (by omega)), trivial⟩ ⟨rfl, trivial⟩
      by_cases e : j = i
      · subst e; simpa [Rl.has] using c
      · exact hj j (by omega)
theorem irreflexive_enters : Enters Tryd.prog 42 := enters_mk Tryd.func42 (by decide) rfl

theorem acyclic_ok (r : Rl) (w : World) : Gives Tryd.prog 46 [encRel r] w (.bool (irB (clos (rightL r)))) := by
  refine Gives.of_run Tryd.func46 rfl (by show 1 ≤ 6; decide) ?_
  refine RunF_sound tab_ok noX_local 100 [] _ _ rfl ?_ ?_
  · simp
  refine Run.callFn noX_local rfl rfl rfl rfl rfl rfl rfl plus_enters rfl (fun w' _ => plus_ok r w') ?_
  have hX := (clos_rt (rt_right r)).right
  generalize clos (rightL r) = X at hX
  refine RunF_sound tab_ok noX_local 100 [] _ _ rfl ?_ ?_
  · simp
  refine Run.callFn noX_local rfl rfl rfl rfl rfl rfl rfl irreflexive_enters rfl (fun w' _ => irreflexive_ok X w') ?_
  rw [hX]
  refine RunF_sound tab_ok noX_local 100 [] _ _ rfl ?_ ?_
  · simp
  exact Run.retP tab_ok Tryd.func46 rfl trivial (fun M => rfl)
theorem acyclic_enters : Enters Tryd.prog 46 := enters_mk Tryd.func46 (by decide) rfl

open Classical in
noncomputable def trB (r : Rl) : Bool := decide (twoR 2 (twoR 3 r r) r = Rl.void (rightL r).n)

theorem transitive_ok (r : Rl) (w : World) (hT : TabAt w) (h0 : 0 < w.heap.size) : Gives Tryd.prog 44 [encRel r] w (.bool (trB r)) := by
  refine Gives.of_run Tryd.func44 rfl (by show 1 ≤ 13; decide) ?_
  unfold trB
  obtain ⟨X, g1⟩ : ∃ X : Rl, X = twoR 3 r r := ⟨_, rfl⟩
  have k1 : ∀ w', Agree (fun _ => False) w w' → Gives Tryd.prog 25 [encRel r, encRel r] w' (encRel X) := fun w' hA => by rw [g1, ← compose_eq]; exact compose_ok r r w' (hT.agree hA (fun f => f)) (Nat.lt_of_lt_of_le h0 hA.size)
  rw [← g1]
  clear g1
  obtain ⟨Y, g2⟩ : ∃ Y : Rl, Y = twoR 2 X r := ⟨_, rfl⟩
  have k2 : ∀ w', Gives Tryd.prog 24 [encRel X, encRel r] w' (encRel Y) := fun w' => by rw [g2, ← minus_eq]; exact minus_ok _ _ w'
  rw [← g2]
  clear g2
  obtain ⟨Z, g3⟩ : ∃ Z : Rl, Z = rightL r := ⟨_, rfl⟩
  have k3 : ∀ w', Gives Tryd.prog 70 [encRel r] w' (encRel Z) := fun w' => by rw [g3]; exact right_ok r w'
  rw [← g3]
  clear g3
  refine RunF_sound tab_ok noX_local 100 [] _ _ rfl ?_ ?_
  · simp
  refine Run.drawA noX_local rfl [8] [(0, .cells 25 [.vals 65 (relV r)])] rfl rfl ⟨rfl, trivial⟩ ?_
  refine RunOF_sound tab_ok noX_local rfl rfl 200 [] _ _ rfl ?_ ?_
  · simp
  refine RunO.callFn noX_local rfl rfl rfl rfl rfl rfl rfl rfl compose_enters rfl (fun w' hA => k1 w' hA) ?_
  refine RunOF_sound tab_ok noX_local rfl rfl 200 [] _ _ rfl ?_ ?_
  · simp
  refine RunO.callFn noX_local rfl rfl rfl rfl rfl rfl rfl rfl minus_enters rfl (fun w' _ => k2 w') ?_
  refine RunOF_sound tab_ok noX_local rfl rfl 200 [] _ _ rfl ?_ ?_
  · simp
  refine RunO.callFn noX_local rfl rfl rfl rfl rfl rfl rfl rfl right_enters rfl (fun w' _ => k3 w') ?_
  refine RunOF_sound tab_ok noX_local rfl rfl 200 [] _ _ rfl ?_ ?_
  · simp [fillL, Value.cells, splice, inT, lk]
  refine RunO.cmp rfl rfl rfl rfl rfl rfl rfl (b := decide (Y = Rl.void Z.n)) (c := decide (Y = Rl.void Z.n)) ?_ (.inl ⟨rfl, rfl⟩) ?_
  · have h := eqRel Y (Rl.void Z.n)
    exact h
  refine RunOF_sound tab_ok noX_local rfl rfl 200 [] _ _ rfl ?_ ?_
  · simp
  refine RunO.done ?_
  refine RunF_sound tab_ok noX_local 100 [] _ _ rfl ?_ ?_
  · simp
  exact Run.retP tab_ok Tryd.func44 rfl trivial (fun M => rfl)
theorem transitive_enters : Enters Tryd.prog 44 := enters_mk Tryd.func44 (by decide) rfl
end Go.Proofs.YtocpkgckllbjlaaDoor

/-
  Opt, Plus, Star, Irreflexive, Acyclic, Transitive: the reference's. Own work.
-/
namespace Go.Proofs.YtocpkgckllbjlaaDoor
open Go.AM
set_option maxRecDepth 100000

theorem onL_ones (n : Int) (h0 : 0 ≤ n) : onL n 18446744073709551615#64 = onL n (mask n) := by
  unfold onL
  split
  · rfl
  · refine Rl.by_congr fun i hi => ?_
    have h1 : (18446744073709551615#64).getLsbD i = true := by
      rw [show (18446744073709551615#64) = BitVec.allOnes 64 from by decide, BitVec.getLsbD_allOnes, decide_eq_true hi]
    rw [h1, mask_get n i h0]
    by_cases c : (i : Int) < n
    · simp [c, hi]
    · simp [c]

theorem optR_ok (r : Rl) (w : World) : Gives Tryd.prog 33 [encRel r] w (encRel (optL r)) := by
  refine Gives.of_run Tryd.func33 rfl (by show 1 ≤ 10; decide) ?_
  refine RunF_sound tab_ok noX_local 100 [] _ _ rfl ?_ ?_
  · simp
  refine Run.callFn noX_local rfl rfl rfl rfl rfl rfl rfl rightR_enters rfl (fun w' _ => rightR_ok r w') ?_
  have hR := rt_right r
  unfold optL
  generalize rightL r = R at hR
  have hlo := hR.lo
  have k1 : ∀ w', Gives Tryd.prog 83 [.int .i64 R.n, .int .u64 18446744073709551615] w' (encRel (onL R.n (mask R.n))) := fun w' => by
    have h := onR_ok R.n 18446744073709551615#64 w'
    rw [show un 18446744073709551615#64 = 18446744073709551615 from by decide, onL_ones _ hlo] at h
    exact h
  generalize onL R.n (mask R.n) = O at k1
  obtain ⟨X, hX, hX2⟩ : ∃ X, X = twoR 0 R O ∧ ∀ w', Gives Tryd.prog 22 [.int .i64 0, encRel R, encRel O] w' (encRel X) := ⟨_, rfl, fun w' => two_R 0 (by decide) _ _ w'⟩
  rw [← hX]
  clear hX
  refine RunF_sound tab_ok noX_local 100 [] _ _ rfl ?_ ?_
  · simp [segsVals, relV_one']
  refine Run.drawA noX_local rfl [] [(0, .cells 25 [.vals 65 (relV R)])] rfl rfl ⟨by simp [splice, lk], trivial⟩ ?_
  refine RunOF_sound tab_ok noX_local rfl rfl 200 [] _ _ rfl ?_ ?_
  · simp
  refine RunO.callFn noX_local rfl rfl rfl rfl rfl rfl rfl rfl onR_enters rfl (fun w' _ => k1 w') ?_
  refine RunOF_sound tab_ok noX_local rfl rfl 200 [] _ _ rfl ?_ ?_
  · simp
  refine RunO.callFn noX_local rfl rfl rfl rfl rfl rfl rfl rfl two_R_enters rfl (fun w' _ => hX2 w') ?_
  refine RunOF_sound tab_ok noX_local rfl rfl 200 [] _ _ rfl ?_ ?_
  · simp [segsVals, relV_one', inT, lk]
  refine RunO.done ?_
  refine RunF_sound tab_ok noX_local 100 [] _ _ rfl ?_ ?_
  · simp
  refine Run.retP tab_ok Tryd.func33 rfl ?_ (fun M => ?_)
  · simp
  rfl
theorem optR_enters : Enters Tryd.prog 33 := enters_mk Tryd.func33 (by decide) rfl

theorem plusR_ok (r : Rl) (w : World) : Gives Tryd.prog 35 [encRel r] w (encRel (clos (rightL r))) := by
  refine Gives.of_run Tryd.func35 rfl (by show 1 ≤ 16; decide) ?_
  refine RunF_sound tab_ok noX_local 100 [] _ _ rfl ?_ ?_
  · simp
  refine Run.callFn noX_local rfl rfl rfl rfl rfl rfl rfl rightR_enters rfl (fun w' _ => rightR_ok r w') ?_
  have hR := rt_right r
  generalize rightL r = R at hR
  obtain ⟨Z, hZ⟩ : ∃ Z, Z = clos R := ⟨_, rfl⟩
  rw [← hZ]
  refine RunF_sound tab_ok noX_local 100 [] _ _ rfl ?_ ?_
  · simp [segsVals, relV_one']
  suffices H : ∀ (m : Nat) (S : Rl), missing S < m → Rt S → S.n = R.n → (∀ a b, R.has a b = true → S.has a b = true) → (∀ a b, S.has a b = true → Relation.TransGen (Pr R) a b) → ∀ σ, inT σ.t [(1, .ptr 0 0), (2, .ptr 1 0)] →
      inT σ.h [(0, .cells 25 [.vals 65 (relV S)]), (1, .cells 25 [.vals 65 (relV (Rl.void 0))])] → Run _ _ σ by
    refine H (missing R + 1) R (by omega) hR rfl (fun _ _ h => h) (fun _ _ h => .single h) _ ⟨rfl, rfl, trivial⟩ ⟨?_, rfl, trivial⟩
    simp [lk]
  intro m
  induction m with
  | zero => intro S h; omega
  | succ m ih =>
    intro S hm hS hn h1 h2 σ ht hh
    refine Run.to ?_ ht hh (n' := 2)
    have hmis := more_missing hS
    have hfix := more_fix hR hS hn h1 h2
    have hrt := more_rt hS
    have hn2 := (more_n hS).trans hn
    have h3 := more_in hS h2
    have h4 : ∀ a b, R.has a b = true → (more S).has a b = true := fun a b h => (more_has hS a b).2 (.inl (h1 a b h))
    obtain ⟨X, g1⟩ : ∃ X : Rl, X = twoR 3 S S := ⟨_, rfl⟩
    have k1 : ∀ w', Gives Tryd.prog 22 [.int .i64 3, encRel S, encRel S] w' (encRel X) := fun w' => by rw [g1]; exact two_R 3 (by decide) _ _ w'
    obtain ⟨Y, g2⟩ : ∃ Y : Rl, Y = more S := ⟨_, rfl⟩
    have k2 : ∀ w', Gives Tryd.prog 22 [.int .i64 0, encRel S, encRel X] w' (encRel Y) := fun w' => by rw [g2, more, ← g1]; exact two_R 0 (by decide) _ _ w'
    rw [← g2] at hmis hfix hrt hn2 h3 h4
    clear g1 g2
    have hcmp := eqRel Y S
    refine RunF_sound tab_ok noX_local 100 [] _ _ rfl ?_ ?_
    · simp
    refine' Run.join (todo' := _) [(1, .ptr 0 0), (2, .ptr 1 0), (3, .ptr 2 0)] [(0, .cells 25 [.vals 65 (relV S)]), (1, .cells 25 [.vals 65 (relV (Rl.void 0))]), (2, .cells 25 [.vals 65 (relV Y)])] 3 ?_ ?_
    rotate_left
    · intro J
      refine Run.drawF2 noX_local rfl 5 3 4 rfl rfl [] [(0, .cells 25 [.vals 65 (relV S)])] rfl rfl rfl rfl rfl rfl ⟨rfl, trivial⟩ ?_ ?_ ?_
      · refine RunOF_sound tab_ok noX_local rfl rfl 200 [] _ _ rfl ?_ ?_
        · simp [inT, lk]
        refine RunO.callFn noX_local rfl rfl rfl rfl rfl rfl rfl rfl two_R_enters rfl (fun w' _ => k1 w') ?_
        refine RunOF_sound tab_ok noX_local rfl rfl 200 [] _ _ rfl ?_ ?_
        · simp
        refine RunO.callFn noX_local rfl rfl rfl rfl rfl rfl rfl rfl two_R_enters rfl (fun w' _ => k2 w') ?_
        refine RunOF_sound tab_ok noX_local rfl rfl 200 [] _ _ rfl ?_ ?_
        · simp [inT, lk, segsVals, relV_one']
        refine RunO.done ?_
        refine J _ ?_ ?_
        · exact ⟨⟨_, rfl, fun M => rfl⟩, ⟨_, rfl, fun M => rfl⟩, ⟨_, rfl, fun M => rfl⟩, trivial⟩
        · refine ⟨?_, ?_, ?_, trivial⟩ <;> simp [lk]
      · refine RunOF_sound tab_ok noX_local rfl rfl 200 [] _ _ rfl ?_ ?_
        · simp
        refine RunO.callFn noX_local rfl rfl rfl rfl rfl rfl rfl rfl two_R_enters rfl (fun w' _ => k1 w') ?_
        refine RunOF_sound tab_ok noX_local rfl rfl 200 [] _ _ rfl ?_ ?_
        · simp [inT, lk]
        refine RunO.callFn noX_local rfl rfl rfl rfl rfl rfl rfl rfl two_R_enters rfl (fun w' _ => k2 w') ?_
        refine RunOF_sound tab_ok noX_local rfl rfl 200 [] _ _ rfl ?_ ?_
        · simp [inT, lk, segsVals, relV_one']
        refine RunO.done ?_
        refine J _ ?_ ?_
        · exact ⟨⟨_, rfl, fun M => rfl⟩, ⟨_, rfl, fun M => rfl⟩, ⟨_, rfl, fun M => rfl⟩, trivial⟩
        · refine ⟨?_, ?_, ?_, trivial⟩ <;> simp [lk]
      · refine RunOF_sound tab_ok noX_local rfl rfl 200 [] _ _ rfl ?_ ?_
        · simp
        refine RunO.callFn noX_local rfl rfl rfl rfl rfl rfl rfl rfl two_R_enters rfl (fun w' _ => k1 w') ?_
        refine RunOF_sound tab_ok noX_local rfl rfl 200 [] _ _ rfl ?_ ?_
        · simp
        refine RunO.callFn noX_local rfl rfl rfl rfl rfl rfl rfl rfl two_R_enters rfl (fun w' _ => k2 w') ?_
        refine RunOF_sound tab_ok noX_local rfl rfl 200 [] _ _ rfl ?_ ?_
        · simp [inT, lk, segsVals, relV_one']
        refine RunO.done ?_
        refine J _ ?_ ?_
        · exact ⟨⟨_, rfl, fun M => rfl⟩, ⟨_, rfl, fun M => rfl⟩, ⟨_, rfl, fun M => rfl⟩, trivial⟩
        · refine ⟨?_, ?_, ?_, trivial⟩ <;> simp [lk]
    by_cases c : Y = S
    · refine RunF_sound tab_ok noX_local 100 [] _ _ rfl ?_ ?_
      · simp
      refine Run.cmp rfl rfl rfl rfl rfl rfl (b := true) (c := true) (by rw [decide_eq_true c] at hcmp; exact hcmp) (.inl ⟨rfl, rfl⟩) ?_
      refine RunF_sound tab_ok noX_local 100 [true] _ _ rfl ?_ ?_
      · simp [segsVals, relV_one']
      refine Run.retP tab_ok Tryd.func35 rfl ?_ (fun M => ?_)
      · simp
      rw [hZ, ← hfix c]; rfl
    · refine RunF_sound tab_ok noX_local 100 [] _ _ rfl ?_ ?_
      · simp
      refine Run.cmp rfl rfl rfl rfl rfl rfl (b := false) (c := false) (by rw [decide_eq_false c] at hcmp; exact hcmp) (.inl ⟨rfl, rfl⟩) ?_
      refine RunF_sound tab_ok noX_local 100 [false] _ _ rfl ?_ ?_
      · simp [segsVals, relV_one']
      refine ih Y (by have := hmis c; omega) hrt hn2 h4 h3 _ ⟨rfl, rfl, trivial⟩ ⟨?_, rfl, trivial⟩
      simp [lk]
theorem plusR_enters : Enters Tryd.prog 35 := enters_mk Tryd.func35 (by decide) rfl

theorem starR_ok (r : Rl) (w : World) : Gives Tryd.prog 37 [encRel r] w (encRel (optL (clos (rightL r)))) := by
  refine Gives.of_run Tryd.func37 rfl (by show 1 ≤ 6; decide) ?_
  refine RunF_sound tab_ok noX_local 100 [] _ _ rfl ?_ ?_
  · simp
  refine Run.callFn noX_local rfl rfl rfl rfl rfl rfl rfl plusR_enters rfl (fun w' _ => plusR_ok r w') ?_
  generalize clos (rightL r) = X
  refine RunF_sound tab_ok noX_local 100 [] _ _ rfl ?_ ?_
  · simp
  obtain ⟨Y, hY, hY2⟩ : ∃ Y, Y = optL X ∧ ∀ w', Gives Tryd.prog 33 [encRel X] w' (encRel Y) := ⟨_, rfl, fun w' => optR_ok X w'⟩
  rw [← hY]
  refine Run.callFn noX_local rfl rfl rfl rfl rfl rfl rfl optR_enters rfl (fun w' _ => hY2 w') ?_
  refine RunF_sound tab_ok noX_local 100 [] _ _ rfl ?_ ?_
  · simp [segsVals, relV_one']
  refine Run.retP tab_ok Tryd.func37 rfl ?_ (fun M => ?_)
  · simp
  rfl
theorem starR_enters : Enters Tryd.prog 37 := enters_mk Tryd.func37 (by decide) rfl

theorem irreflexiveR_ok (r : Rl) (w : World) : Gives Tryd.prog 43 [encRel r] w (.bool (irB (rightL r))) := by
  refine Gives.of_run Tryd.func43 rfl (by show 1 ≤ 16; decide) ?_
  refine RunF_sound tab_ok noX_local 100 [] _ _ rfl ?_ ?_
  · simp
  refine Run.callFn noX_local rfl rfl rfl rfl rfl rfl rfl rightR_enters rfl (fun w' _ => rightR_ok r w') ?_
  have hR := rt_right r
  generalize rightL r = R at hR
  have hlo := hR.lo
  have hhi := hR.hi
  refine RunF_sound tab_ok noX_local 100 [] _ _ rfl ?_ ?_
  · simp [segsVals, relV_one']
  suffices H : ∀ (d i : Nat), (i : Int) + d = R.n → (∀ j, j < i → R.has j j = false) → ∀ σ, inT σ.t [(1, .ptr 0 0), (3, .v (.int .i64 (i : Int)))] →
      inT σ.h [(0, .cells 25 [.vals 65 (relV R)])] → Run _ _ σ by
    refine H R.n.toNat 0 (by omega) (fun j h => by omega) _ ⟨rfl, rfl, trivial⟩ ⟨?_, trivial⟩
    simp [lk]
  intro d
  induction d with
  | zero =>
    intro i hi hj σ ht hh
    refine Run.to ?_ ht hh (n' := 2)
    refine RunF_sound tab_ok noX_local 100 [false] _ _ rfl ?_ ?_
    · simp; omega
    · refine Run.retP tab_ok Tryd.func43 rfl trivial (fun M => ?_)
      have : irB R = true := irB_true fun j => by
        cases h : R.has j j with
        | false => rfl
        | true => have := hR.lt _ _ h; rw [hj j (by omega)] at h; cases h
      rw [this]; rfl
  | succ d ih =>
    intro i hi hj σ ht hh
    refine Run.to ?_ ht hh (n' := 2)
    have hi' : i < 64 := by omega
    have hin : hasI R (i : Int) (i : Int) = R.has i i := hasI_in (by omega) (by omega)
    refine RunF_sound tab_ok noX_local 100 [true] _ _ rfl ?_ ?_
    · simp; omega
    refine Run.callFn noX_local rfl rfl rfl rfl rfl rfl rfl hasR_enters rfl (fun w' _ => hasR_ok R ⟨hlo, hhi⟩ (i : Int) (i : Int) w') ?_
    rw [hin]
    by_cases c : R.has i i = true
    · refine RunF_sound tab_ok noX_local 100 [true] _ _ rfl ?_ ?_
      · simp [c]
      refine Run.retP tab_ok Tryd.func43 rfl trivial (fun M => ?_)
      have : irB R = false := irB_false (i := i) c
      rw [this]; rfl
    · refine RunF_sound tab_ok noX_local 100 [false] _ _ rfl ?_ ?_
      · simpa using c
      refine ih (i + 1) (by omega) (fun j h => ?_) _ ⟨rfl, i64_eq (wrap_succ (by omega)), trivial⟩ ⟨rfl, trivial⟩
      by_cases e : j = i
      · subst e; simpa using c
      · exact hj j (by omega)
theorem irreflexiveR_enters : Enters Tryd.prog 43 := enters_mk Tryd.func43 (by decide) rfl

theorem acyclicR_ok (r : Rl) (w : World) : Gives Tryd.prog 47 [encRel r] w (.bool (irB (clos (rightL r)))) := by
  refine Gives.of_run Tryd.func47 rfl (by show 1 ≤ 6; decide) ?_
  refine RunF_sound tab_ok noX_local 100 [] _ _ rfl ?_ ?_
  · simp
  refine Run.callFn noX_local rfl rfl rfl rfl rfl rfl rfl plusR_enters rfl (fun w' _ => plusR_ok r w') ?_
  have hX := (clos_rt (rt_right r)).right
  generalize clos (rightL r) = X at hX
  refine RunF_sound tab_ok noX_local 100 [] _ _ rfl ?_ ?_
  · simp
  refine Run.callFn noX_local rfl rfl rfl rfl rfl rfl rfl irreflexiveR_enters rfl (fun w' _ => irreflexiveR_ok X w') ?_
  rw [hX]
  refine RunF_sound tab_ok noX_local 100 [] _ _ rfl ?_ ?_
  · simp
  exact Run.retP tab_ok Tryd.func47 rfl trivial (fun M => rfl)
theorem acyclicR_enters : Enters Tryd.prog 47 := enters_mk Tryd.func47 (by decide) rfl

theorem trB_right (r : Rl) : trB (rightL r) = trB r := by
  unfold trB
  rw [rightL_idem, twoR_right 2 (twoR 3 r r) r, twoR_right 3 r r]
  have h := twoR_right 2 (twoR 3 (rightL r) (rightL r)) (rightL r)
  rw [rightL_idem] at h
  rw [← h]

theorem transitiveR_ok (r : Rl) (w : World) : Gives Tryd.prog 45 [encRel r] w (.bool (trB r)) := by
  refine Gives.of_run Tryd.func45 rfl (by show 1 ≤ 14; decide) ?_
  rw [← trB_right]
  refine RunF_sound tab_ok noX_local 100 [] _ _ rfl ?_ ?_
  · simp
  refine Run.callFn noX_local rfl rfl rfl rfl rfl rfl rfl rightR_enters rfl (fun w' _ => rightR_ok r w') ?_
  have hR := (rt_right r).right
  generalize rightL r = R at hR
  unfold trB
  rw [hR]
  obtain ⟨X, g1⟩ : ∃ X : Rl, X = twoR 3 R R := ⟨_, rfl⟩
  have k1 : ∀ w', Gives Tryd.prog 22 [.int .i64 3, encRel R, encRel R] w' (encRel X) := fun w' => by rw [g1]; exact two_R 3 (by decide) _ _ w'
  rw [← g1]
  clear g1
  obtain ⟨Y, g2⟩ : ∃ Y : Rl, Y = twoR 2 X R := ⟨_, rfl⟩
  have k2 : ∀ w', Gives Tryd.prog 22 [.int .i64 2, encRel X, encRel R] w' (encRel Y) := fun w' => by rw [g2]; exact two_R 2 (by decide) _ _ w'
  rw [← g2]
  clear g2
  refine RunF_sound tab_ok noX_local 100 [] _ _ rfl ?_ ?_
  · simp [segsVals, relV_one']
  refine Run.drawF2 noX_local rfl 7 2 4 rfl rfl [7] [(0, .cells 25 [.vals 65 (relV R)])] rfl rfl rfl rfl rfl rfl ⟨by simp [splice, lk], trivial⟩ ?_ ?_ ?_
  · refine RunOF_sound tab_ok noX_local rfl rfl 200 [] _ _ rfl ?_ ?_
    · simp [fillL, Value.cells, splice, inT, lk]
    refine RunO.callFn noX_local rfl rfl rfl rfl rfl rfl rfl rfl two_R_enters rfl (fun w' _ => k1 w') ?_
    refine RunOF_sound tab_ok noX_local rfl rfl 200 [] _ _ rfl ?_ ?_
    · simp
    refine RunO.callFn noX_local rfl rfl rfl rfl rfl rfl rfl rfl two_R_enters rfl (fun w' _ => k2 w') ?_
    refine RunOF_sound tab_ok noX_local rfl rfl 200 [] _ _ rfl ?_ ?_
    · simp
    refine RunO.cmp rfl rfl rfl rfl rfl rfl rfl (b := decide (Y = Rl.void R.n)) (c := decide (Y = Rl.void R.n)) ?_ (.inl ⟨rfl, rfl⟩) ?_
    · exact eqRel Y (Rl.void R.n)
    refine RunOF_sound tab_ok noX_local rfl rfl 200 [] _ _ rfl ?_ ?_
    · simp
    refine RunO.done ?_
    refine RunF_sound tab_ok noX_local 100 [] _ _ rfl ?_ ?_
    · simp
    exact Run.retP tab_ok Tryd.func45 rfl trivial (fun M => rfl)
  · refine RunOF_sound tab_ok noX_local rfl rfl 200 [] _ _ rfl ?_ ?_
    · simp
    refine RunO.callFn noX_local rfl rfl rfl rfl rfl rfl rfl rfl two_R_enters rfl (fun w' _ => k1 w') ?_
    refine RunOF_sound tab_ok noX_local rfl rfl 200 [] _ _ rfl ?_ ?_
    · simp [fillL, Value.cells, splice, inT, lk]
    refine RunO.callFn noX_local rfl rfl rfl rfl rfl rfl rfl rfl two_R_enters rfl (fun w' _ => k2 w') ?_
    refine RunOF_sound tab_ok noX_local rfl rfl 200 [] _ _ rfl ?_ ?_
    · simp
    refine RunO.cmp rfl rfl rfl rfl rfl rfl rfl (b := decide (Y = Rl.void R.n)) (c := decide (Y = Rl.void R.n)) ?_ (.inl ⟨rfl, rfl⟩) ?_
    · exact eqRel Y (Rl.void R.n)
    refine RunOF_sound tab_ok noX_local rfl rfl 200 [] _ _ rfl ?_ ?_
    · simp
    refine RunO.done ?_
    refine RunF_sound tab_ok noX_local 100 [] _ _ rfl ?_ ?_
    · simp
    exact Run.retP tab_ok Tryd.func45 rfl trivial (fun M => rfl)
  · refine RunOF_sound tab_ok noX_local rfl rfl 200 [] _ _ rfl ?_ ?_
    · simp
    refine RunO.callFn noX_local rfl rfl rfl rfl rfl rfl rfl rfl two_R_enters rfl (fun w' _ => k1 w') ?_
    refine RunOF_sound tab_ok noX_local rfl rfl 200 [] _ _ rfl ?_ ?_
    · simp
    refine RunO.callFn noX_local rfl rfl rfl rfl rfl rfl rfl rfl two_R_enters rfl (fun w' _ => k2 w') ?_
    refine RunOF_sound tab_ok noX_local rfl rfl 200 [] _ _ rfl ?_ ?_
    · simp [fillL, Value.cells, splice, inT, lk]
    refine RunO.cmp rfl rfl rfl rfl rfl rfl rfl (b := decide (Y = Rl.void R.n)) (c := decide (Y = Rl.void R.n)) ?_ (.inl ⟨rfl, rfl⟩) ?_
    · exact eqRel Y (Rl.void R.n)
    refine RunOF_sound tab_ok noX_local rfl rfl 200 [] _ _ rfl ?_ ?_
    · simp
    refine RunO.done ?_
    refine RunF_sound tab_ok noX_local 100 [] _ _ rfl ?_ ?_
    · simp
    exact Run.retP tab_ok Tryd.func45 rfl trivial (fun M => rfl)
theorem transitiveR_enters : Enters Tryd.prog 45 := enters_mk Tryd.func45 (by decide) rfl
end Go.Proofs.YtocpkgckllbjlaaDoor

/-
  Domain and Range, here and in the reference. Own work.
-/
namespace Go.Proofs.YtocpkgckllbjlaaDoor
open Go.AM
set_option maxRecDepth 100000

/-- The numbers below k that are first in a pair. -/
def domP (R : Rl) (k : Nat) : BitVec 64 := bitsB fun i => decide (i < k) && !(R.row i == 0#64)
def domL (R : Rl) : BitVec 64 := domP R 64

theorem domP_get (R : Rl) (k j : Nat) : (domP R k).getLsbD j = (decide (j < 64) && (decide (j < k) && !(R.row j == 0#64))) := by rw [domP, bitsB_get]
theorem domP_0 (R : Rl) : domP R 0 = 0#64 := by
  apply BitVec.eq_of_getLsbD_eq
  intro j hj
  rw [domP_get]; simp
theorem domP_yes (R : Rl) (k : Nat) (hk : k < 64) (h : ¬ R.row k = 0#64) : domP R k ||| 1#64 <<< k = domP R (k + 1) := by
  apply BitVec.eq_of_getLsbD_eq
  intro j hj
  rw [BitVec.getLsbD_or, domP_get, domP_get, one_shl_get k j hk]
  by_cases e : j = k
  · subst e; simp [h, hj]
  · have : decide (j < k + 1) = decide (j < k) := decide_eq_decide.2 (by omega)
    simp [e, this]
theorem domP_no (R : Rl) (k : Nat) (h : R.row k = 0#64) : domP R k = domP R (k + 1) := by
  apply BitVec.eq_of_getLsbD_eq
  intro j hj
  rw [domP_get, domP_get]
  by_cases e : j = k
  · subst e; simp [h]
  · have : decide (j < k + 1) = decide (j < k) := decide_eq_decide.2 (by omega)
    simp [this]

theorem un_eq0 (x : BitVec 64) : un x = 0 ↔ x = 0#64 := by
  constructor
  · intro h
    apply BitVec.eq_of_toNat_eq
    have : (x.toNat : Int) = 0 := h
    simp; omega
  · rintro rfl; rfl

theorem domain_ok (r : Rl) (w : World) : Gives Tryd.prog 38 [encRel r] w (.int .u64 (un (domL (rightL r)))) := by
  refine Gives.of_run Tryd.func38 rfl (by show 1 ≤ 21; decide) ?_
  refine RunF_sound tab_ok noX_local 100 [] _ _ rfl ?_ ?_
  · simp
  refine Run.callFn noX_local rfl rfl rfl rfl rfl rfl rfl right_enters rfl (fun w' _ => right_ok r w') ?_
  generalize rightL r = R
  refine RunF_sound tab_ok noX_local 100 [] _ _ rfl ?_ ?_
  · simp
  suffices H : ∀ d k, k + d = 64 → ∀ σ, inT σ.t [(3, .v (.int .u64 (un (domP R k)))), (8, .v (.agg (rowV R).toArray)), (9, .v (.int .i64 (k : Int)))] → inT σ.h [] → Run _ _ σ by
    refine H 64 0 rfl _ ⟨?_, ?_, rfl, trivial⟩ trivial
    · rw [domP_0]; rfl
    · exact congrArg (fun l : List Value => some (AV.v (Value.agg l.toArray))) (relV_drop R)
  intro d
  induction d with
  | zero =>
    intro k hk σ ht hh
    refine Run.to ?_ ht hh (n' := 1)
    refine RunF_sound tab_ok noX_local 100 [false] _ _ rfl ?_ ?_
    · simp; omega
    · refine Run.retP tab_ok Tryd.func38 rfl trivial (fun M => ?_)
      rw [domL, show 64 = k by omega]; rfl
  | succ d ih =>
    intro k hk σ ht hh
    refine Run.to ?_ ht hh (n' := 1)
    have hk' : k < 64 := by omega
    have e := intAt_rowV R k hk'
    have e2 := rowV_get R k hk'
    by_cases c : R.row k = 0#64
    · have c' : un (R.row k) = 0 := (un_eq0 _).2 c
      refine RunF_sound tab_ok noX_local 100 [true, false] _ _ rfl ?_ ?_
      · simp [e, e2, c']; omega
      refine ih (k + 1) (by omega) _ ⟨?_, rfl, i64_eq (wrap_succ (by omega)), trivial⟩ trivial
      rw [← domP_no R k c]; rfl
    · have c' : ¬ un (R.row k) = 0 := fun h => c ((un_eq0 _).1 h)
      refine RunF_sound tab_ok noX_local 100 [true, true] _ _ rfl ?_ ?_
      · simp [e, e2]
        (repeat' refine And.intro ?_ ?_) <;> first | omega | exact c'
      refine ih (k + 1) (by omega) _ ⟨?_, rfl, i64_eq (wrap_succ (by omega)), trivial⟩ trivial
      refine u64_eq ?_
      rw [shl1_un, bor_un, Int.toNat_natCast, domP_yes R k hk' c]
theorem domain_enters : Enters Tryd.prog 38 := enters_mk Tryd.func38 (by decide) rfl

def domF (l : List (Int × Int)) (x : BitVec 64) : BitVec 64 := l.foldl (fun x e => x ||| 1#64 <<< e.1.toNat) x
theorem domF_get : ∀ (l : List (Int × Int)) (x : BitVec 64) (j : Nat), (∀ e ∈ l, e.1.toNat < 64) → ((domF l x).getLsbD j = true ↔ x.getLsbD j = true ∨ ∃ e ∈ l, e.1.toNat = j)
  | [], x, j, _ => by simp [domF]
  | e :: l, x, j, h => by
    have ih := domF_get l (x ||| 1#64 <<< e.1.toNat) j (fun e he => h e (List.mem_cons_of_mem _ he))
    show (domF l (x ||| 1#64 <<< e.1.toNat)).getLsbD j = true ↔ _
    rw [ih, BitVec.getLsbD_or, one_shl_get _ j (h e (List.mem_cons_self ..))]
    simp only [Bool.or_eq_true, decide_eq_true_eq, List.mem_cons, exists_eq_or_imp]
    constructor
    · rintro ((h | h) | h)
      · exact .inl h
      · exact .inr (.inl h.symm)
      · exact .inr (.inr h)
    · rintro (h | h | h)
      · exact .inl (.inl h)
      · exact .inl (.inr h.symm)
      · exact .inr h

theorem row_nz (x : BitVec 64) : ¬ x = 0#64 ↔ ∃ b, x.getLsbD b = true := by
  constructor
  · intro h
    by_cases hx : ∃ b, x.getLsbD b = true
    · exact hx
    · exfalso; apply h
      apply BitVec.eq_of_getLsbD_eq
      intro b _
      rw [BitVec.getLsbD_zero]
      cases hb : x.getLsbD b with
      | false => rfl
      | true => exact absurd ⟨b, hb⟩ hx
  · rintro ⟨b, h⟩ rfl
    rw [BitVec.getLsbD_zero] at h; cases h

theorem dom_edges (r : Rl) : domF (edgesL (rightL r)) 0#64 = domL (rightL r) := by
  apply BitVec.eq_of_getLsbD_eq
  intro j hj
  rw [Bool.eq_iff_iff, domF_get _ _ _ (fun e he => by obtain ⟨a, b, rfl, h1, _⟩ := edges_mem _ _ he; simpa using h1), domL, domP_get, BitVec.getLsbD_zero]
  simp only [Bool.false_eq_true, false_or, decide_eq_true hj, Bool.true_and, Bool.not_eq_true', beq_eq_false_iff_ne, ne_eq]
  rw [row_nz]
  constructor
  · rintro ⟨e, he, h⟩
    obtain ⟨a, b, rfl, _, _, h3⟩ := edges_mem _ _ he
    simp at h
    subst h
    exact ⟨b, h3⟩
  · rintro ⟨b, h⟩
    exact ⟨_, (edges_has r j b).2 h, by simp⟩

theorem SeesE.fst {w : World} {p : Option Addr} {xs : List (Int × Int)} (h : SeesE w p xs) (k : Nat) (hk : k < xs.length) : w.cell? (((p.getD default).add (k * 2)).add 0) = some (.int .i64 xs[k].1) := by
  obtain ⟨_, h2, h3⟩ := h k hk
  have h4 := h3 0 (by omega)
  simp only [extCells] at h2
  cases hc : w.cell? (((p.getD default).add (k * 2)).add 0) with
  | none => rw [hc] at h4; cases h4
  | some x => rw [hc] at h2; simp at h2; rw [h2.1]

theorem domainR_ok (r : Rl) (w : World) : Gives Tryd.prog 39 [encRel r] w (.int .u64 (un (domL (rightL r)))) := by
  refine Gives.of_run Tryd.func39 rfl (by show 1 ≤ 23; decide) ?_
  refine RunF_sound tab_ok noX_local 100 [] _ _ rfl ?_ ?_
  · simp
  refine Run.callR noX_local rfl rfl rfl rfl rfl rfl edgesR_enters rfl (fun M w' _ _ => edgesR_ok r w') ?_
  rintro v w2 w1 S1 hag hag2 ⟨p, c, rfl, hc, hs, hnew⟩ hS1
  have hB1 := (Based.refl w).call hag hag2 hS1
  have hn := rightL_n r
  have hlen : (edgesL (rightL r)).length ≤ 4096 := by rw [edgesL, restL_len]; have := sumL_le (rightL r) (rightL r).n.toNat 0; omega
  have hd := dom_edges r
  have hmem := edges_mem (rightL r)
  generalize edgesL (rightL r) = L at *
  generalize domL (rightL r) = D at hd
  refine ⟨.v (.slice p L.length c), fun M => rfl, ?_⟩
  refine RunF_sound tab_ok noX_local 100 [] _ _ rfl ?_ ?_
  · simp
  suffices H : ∀ (d k : Nat) (x : BitVec 64), k + d = L.length → D = domF (L.drop k) x → ∀ σ, inT σ.t [(3, .v (.slice p L.length c)), (4, .v (.int .u64 (un x))), (5, .v (.int .i64 (k : Int)))] → inT σ.h [] → Run _ _ σ by
    exact H L.length 0 0#64 (by omega) (by rw [List.drop_zero]; exact hd.symm) _ ⟨rfl, rfl, rfl, trivial⟩ trivial
  intro d
  induction d with
  | zero =>
    intro k x hk hx σ ht hh
    refine Run.to ?_ ht hh (n' := 0)
    refine RunF_sound tab_ok noX_local 100 [false] _ _ rfl ?_ ?_
    · simp; omega
    refine Run.retB (Ds := []) tab_ok noX_local hB1 Tryd.func39 rfl trivial (fun M => ?_)
    rw [List.drop_eq_nil_of_le (by omega)] at hx
    rw [hx]; rfl
  | succ d ih =>
    intro k x hk hx σ ht hh
    refine Run.to ?_ ht hh (n' := 0)
    have hlt : k < L.length := by omega
    obtain ⟨a, b, e0, ha, _, _⟩ := hmem L[k] (List.getElem_mem hlt)
    have e1 := (hs k hlt).1
    have e2 := hs.fst k hlt
    have hS : ¬ S1 ((p.getD default).add (k * 2)).block := by rw [add_block]; exact hS1.new _ (hnew _ e1).1
    have hS' : ¬ S1 (((p.getD default).add (k * 2)).add 0).block := by rw [add_block]; exact hS
    rw [List.drop_eq_getElem_cons hlt] at hx
    rw [e0] at e2 hx
    refine RunF_sound tab_ok noX_local 100 [true] _ _ rfl ?_ ?_
    · simp only [Int.toNat_natCast, e2]
      simp [hS']
      (repeat' refine And.intro ?_ ?_) <;> first | omega | exact e1
    refine ih (k + 1) (x ||| 1#64 <<< a) (by omega) (by rw [hx]; rfl) _ ⟨rfl, ?_, i64_eq (wrap_succ (by omega)), trivial⟩ trivial
    simp only [Int.toNat_natCast, e2]
    refine u64_eq ?_
    rw [shl1_un, bor_un, Int.toNat_natCast]
theorem domainR_enters : Enters Tryd.prog 39 := enters_mk Tryd.func39 (by decide) rfl

noncomputable def ranL (r : Rl) : BitVec 64 := domL (rightL (Rl.gen (rightL r).n fun x y => (rightL r).has y x))

theorem range_ok (r : Rl) (w : World) (hT : TabAt w) (h0 : 0 < w.heap.size) : Gives Tryd.prog 40 [encRel r] w (.int .u64 (un (ranL r))) := by
  refine Gives.of_run Tryd.func40 rfl (by show 1 ≤ 6; decide) ?_
  unfold ranL
  obtain ⟨X, g1⟩ : ∃ X : Rl, X = Rl.gen (rightL r).n fun x y => (rightL r).has y x := ⟨_, rfl⟩
  have k1 : ∀ w', Agree (fun _ => False) w w' → Gives Tryd.prog 26 [encRel r] w' (encRel X) := fun w' hA => by rw [g1, ← inverse_eq]; exact inverse_ok r w' (hT.agree hA (fun f => f)) (Nat.lt_of_lt_of_le h0 hA.size)
  rw [← g1]
  clear g1
  refine RunF_sound tab_ok noX_local 100 [] _ _ rfl ?_ ?_
  · simp
  refine Run.callFn noX_local rfl rfl rfl rfl rfl rfl rfl inverse_enters rfl (fun w' hA => k1 w' hA) ?_
  refine RunF_sound tab_ok noX_local 100 [] _ _ rfl ?_ ?_
  · simp
  refine Run.callFn noX_local rfl rfl rfl rfl rfl rfl rfl domain_enters rfl (fun w' _ => domain_ok X w') ?_
  refine RunF_sound tab_ok noX_local 100 [] _ _ rfl ?_ ?_
  · simp
  exact Run.retP tab_ok Tryd.func40 rfl trivial (fun M => rfl)
theorem range_enters : Enters Tryd.prog 40 := enters_mk Tryd.func40 (by decide) rfl

theorem rangeR_ok (r : Rl) (w : World) : Gives Tryd.prog 41 [encRel r] w (.int .u64 (un (ranL r))) := by
  refine Gives.of_run Tryd.func41 rfl (by show 1 ≤ 6; decide) ?_
  unfold ranL
  have k1 := inverseR_ok r
  generalize (Rl.gen (rightL r).n fun x y => (rightL r).has y x) = X at k1
  refine RunF_sound tab_ok noX_local 100 [] _ _ rfl ?_ ?_
  · simp
  refine Run.callFn noX_local rfl rfl rfl rfl rfl rfl rfl inverseR_enters rfl (fun w' _ => k1 w') ?_
  refine RunF_sound tab_ok noX_local 100 [] _ _ rfl ?_ ?_
  · simp
  refine Run.callFn noX_local rfl rfl rfl rfl rfl rfl rfl domainR_enters rfl (fun w' _ => domainR_ok X w') ?_
  refine RunF_sound tab_ok noX_local 100 [] _ _ rfl ?_ ?_
  · simp
  exact Run.retP tab_ok Tryd.func41 rfl trivial (fun M => rfl)
theorem rangeR_enters : Enters Tryd.prog 41 := enters_mk Tryd.func41 (by decide) rfl
end Go.Proofs.YtocpkgckllbjlaaDoor

/-
  RelCloses answers true. Own work; the walk printed by a program of our own.
-/
namespace Go.Proofs.YtocpkgckllbjlaaDoor
open Go.AM
set_option maxRecDepth 100000

theorem closes_ok (r : Rl) (w : World) (hT : TabAt w) (h0 : 0 < w.heap.size) : Gives Tryd.prog 5 [encRel r] w (.bool true) := by
  refine Gives.of_run Tryd.func5 rfl (by show 1 ≤ 57; decide) ?_
  have hcmp : ∀ R : Rl, EqT Tryd.prog 25 (relV R).toArray (relV R).toArray true := fun R => by have := eqRel R R; simpa using this
  obtain ⟨X0, g0, k0⟩ : ∃ X : Rl, (∀ w', Gives Tryd.prog 32 [encRel r] w' (encRel X)) ∧ (∀ w', Gives Tryd.prog 33 [encRel r] w' (encRel X)) :=
    ⟨_, fun w' => opt_ok r w', fun w' => optR_ok r w'⟩
  obtain ⟨X1, g1, k1⟩ : ∃ X : Rl, (∀ w', Gives Tryd.prog 34 [encRel r] w' (encRel X)) ∧ (∀ w', Gives Tryd.prog 35 [encRel r] w' (encRel X)) :=
    ⟨_, fun w' => plus_ok r w', fun w' => plusR_ok r w'⟩
  obtain ⟨X2, g2, k2⟩ : ∃ X : Rl, (∀ w', Gives Tryd.prog 36 [encRel r] w' (encRel X)) ∧ (∀ w', Gives Tryd.prog 37 [encRel r] w' (encRel X)) :=
    ⟨_, fun w' => star_ok r w', fun w' => starR_ok r w'⟩
  obtain ⟨X3, g3, k3⟩ : ∃ X : BitVec 64, (∀ w', Gives Tryd.prog 38 [encRel r] w' (.int .u64 (un X))) ∧ (∀ w', Gives Tryd.prog 39 [encRel r] w' (.int .u64 (un X))) :=
    ⟨_, fun w' => domain_ok r w', fun w' => domainR_ok r w'⟩
  obtain ⟨X4, g4, k4⟩ : ∃ X : BitVec 64, (∀ w', Agree (fun _ => False) w w' → Gives Tryd.prog 40 [encRel r] w' (.int .u64 (un X))) ∧ (∀ w', Gives Tryd.prog 41 [encRel r] w' (.int .u64 (un X))) :=
    ⟨_, fun w' hA => range_ok r w' (hT.agree hA (fun f => f)) (Nat.lt_of_lt_of_le h0 hA.size), fun w' => rangeR_ok r w'⟩
  obtain ⟨X5, g5, k5⟩ : ∃ X : Bool, (∀ w', Gives Tryd.prog 42 [encRel r] w' (.bool X)) ∧ (∀ w', Gives Tryd.prog 43 [encRel r] w' (.bool X)) :=
    ⟨_, fun w' => irreflexive_ok r w', fun w' => irreflexiveR_ok r w'⟩
  obtain ⟨X6, g6, k6⟩ : ∃ X : Bool, (∀ w', Agree (fun _ => False) w w' → Gives Tryd.prog 44 [encRel r] w' (.bool X)) ∧ (∀ w', Gives Tryd.prog 45 [encRel r] w' (.bool X)) :=
    ⟨_, fun w' hA => transitive_ok r w' (hT.agree hA (fun f => f)) (Nat.lt_of_lt_of_le h0 hA.size), fun w' => transitiveR_ok r w'⟩
  obtain ⟨X7, g7, k7⟩ : ∃ X : Bool, (∀ w', Gives Tryd.prog 46 [encRel r] w' (.bool X)) ∧ (∀ w', Gives Tryd.prog 47 [encRel r] w' (.bool X)) :=
    ⟨_, fun w' => acyclic_ok r w', fun w' => acyclicR_ok r w'⟩
  refine RunF_sound tab_ok noX_local 100 [] _ _ rfl ?_ ?_
  · simp
  refine Run.drawA noX_local rfl [] [(0, .cells 25 [.vals 65 (relV r)])] rfl rfl ⟨rfl, trivial⟩ ?_
  refine RunOF_sound tab_ok noX_local rfl rfl 200 [] _ _ rfl ?_ ?_
  · simp
  refine RunO.callFn noX_local rfl rfl rfl rfl rfl rfl rfl rfl opt_enters rfl (fun w' hA => g0 w') ?_
  refine RunOF_sound tab_ok noX_local rfl rfl 200 [] _ _ rfl ?_ ?_
  · simp
  refine RunO.callFn noX_local rfl rfl rfl rfl rfl rfl rfl rfl optR_enters rfl (fun w' _ => k0 w') ?_
  refine RunOF_sound tab_ok noX_local rfl rfl 200 [] _ _ rfl ?_ ?_
  · simp
  refine RunO.cmp rfl rfl rfl rfl rfl rfl rfl (b := true) (c := true) (hcmp X0) (.inl ⟨rfl, rfl⟩) ?_
  refine RunOF_sound tab_ok noX_local rfl rfl 200 [true] _ _ rfl ?_ ?_
  · simp
  refine RunO.callFn noX_local rfl rfl rfl rfl rfl rfl rfl rfl plus_enters rfl (fun w' hA => g1 w') ?_
  refine RunOF_sound tab_ok noX_local rfl rfl 200 [] _ _ rfl ?_ ?_
  · simp
  refine RunO.callFn noX_local rfl rfl rfl rfl rfl rfl rfl rfl plusR_enters rfl (fun w' _ => k1 w') ?_
  refine RunOF_sound tab_ok noX_local rfl rfl 200 [] _ _ rfl ?_ ?_
  · simp
  refine RunO.cmp rfl rfl rfl rfl rfl rfl rfl (b := true) (c := true) (hcmp X1) (.inl ⟨rfl, rfl⟩) ?_
  refine RunOF_sound tab_ok noX_local rfl rfl 200 [true] _ _ rfl ?_ ?_
  · simp
  refine RunO.callFn noX_local rfl rfl rfl rfl rfl rfl rfl rfl star_enters rfl (fun w' hA => g2 w') ?_
  refine RunOF_sound tab_ok noX_local rfl rfl 200 [] _ _ rfl ?_ ?_
  · simp
  refine RunO.callFn noX_local rfl rfl rfl rfl rfl rfl rfl rfl starR_enters rfl (fun w' _ => k2 w') ?_
  refine RunOF_sound tab_ok noX_local rfl rfl 200 [] _ _ rfl ?_ ?_
  · simp
  refine RunO.cmp rfl rfl rfl rfl rfl rfl rfl (b := true) (c := true) (hcmp X2) (.inl ⟨rfl, rfl⟩) ?_
  refine RunOF_sound tab_ok noX_local rfl rfl 200 [true] _ _ rfl ?_ ?_
  · simp
  refine RunO.callFn noX_local rfl rfl rfl rfl rfl rfl rfl rfl domain_enters rfl (fun w' hA => g3 w') ?_
  refine RunOF_sound tab_ok noX_local rfl rfl 200 [] _ _ rfl ?_ ?_
  · simp
  refine RunO.callFn noX_local rfl rfl rfl rfl rfl rfl rfl rfl domainR_enters rfl (fun w' _ => k3 w') ?_
  refine RunOF_sound tab_ok noX_local rfl rfl 200 [true] _ _ rfl ?_ ?_
  · simp
  refine RunO.callFn noX_local rfl rfl rfl rfl rfl rfl rfl rfl range_enters rfl (fun w' hA => g4 w' hA) ?_
  refine RunOF_sound tab_ok noX_local rfl rfl 200 [] _ _ rfl ?_ ?_
  · simp
  refine RunO.callFn noX_local rfl rfl rfl rfl rfl rfl rfl rfl rangeR_enters rfl (fun w' _ => k4 w') ?_
  refine RunOF_sound tab_ok noX_local rfl rfl 200 [true] _ _ rfl ?_ ?_
  · simp
  refine RunO.callFn noX_local rfl rfl rfl rfl rfl rfl rfl rfl irreflexive_enters rfl (fun w' hA => g5 w') ?_
  refine RunOF_sound tab_ok noX_local rfl rfl 200 [] _ _ rfl ?_ ?_
  · simp
  refine RunO.callFn noX_local rfl rfl rfl rfl rfl rfl rfl rfl irreflexiveR_enters rfl (fun w' _ => k5 w') ?_
  refine RunOF_sound tab_ok noX_local rfl rfl 200 [true] _ _ rfl ?_ ?_
  · simp
  refine RunO.callFn noX_local rfl rfl rfl rfl rfl rfl rfl rfl transitive_enters rfl (fun w' hA => g6 w' hA) ?_
  refine RunOF_sound tab_ok noX_local rfl rfl 200 [] _ _ rfl ?_ ?_
  · simp
  refine RunO.callFn noX_local rfl rfl rfl rfl rfl rfl rfl rfl transitiveR_enters rfl (fun w' _ => k6 w') ?_
  refine RunOF_sound tab_ok noX_local rfl rfl 200 [true] _ _ rfl ?_ ?_
  · simp
  refine RunO.callFn noX_local rfl rfl rfl rfl rfl rfl rfl rfl acyclic_enters rfl (fun w' hA => g7 w') ?_
  refine RunOF_sound tab_ok noX_local rfl rfl 200 [] _ _ rfl ?_ ?_
  · simp
  refine RunO.callFn noX_local rfl rfl rfl rfl rfl rfl rfl rfl acyclicR_enters rfl (fun w' _ => k7 w') ?_
  refine RunOF_sound tab_ok noX_local rfl rfl 200 [] _ _ rfl ?_ ?_
  · simp
  refine RunO.done ?_
  refine RunF_sound tab_ok noX_local 100 [] _ _ rfl ?_ ?_
  · simp
  refine Run.retP tab_ok Tryd.func5 rfl trivial (fun M => ?_)
  simp [conc]
theorem closes_enters : Enters Tryd.prog 5 := enters_mk Tryd.func5 (by decide) rfl
end Go.Proofs.YtocpkgckllbjlaaDoor

/-
  The abstract machine, twenty-second part: calls that hand over blocks which they have made. Own work; over any program.
-/
namespace Go.AM

mutual
def AV.ge (n : Nat) : AV → Bool
  | .v _ => true
  | .tt _ => true
  | .ptr id _ => Nat.ble n id
  | .elt id _ _ => Nat.ble n id
  | .mp id => Nat.ble n id
  | .sl id _ _ _ => Nat.ble n id
  | .fn _ caps => geL n caps
  | .agg l => geL n l
  | .tup l => geL n l
def geL (n : Nat) : List AV → Bool
  | [] => true
  | x :: r => match x.ge n with | true => geL n r | false => false
end

mutual
theorem conc_congrG {M M' : Loc} {n : Nat} (h : ∀ i, n ≤ i → M' i = M i) : ∀ x : AV, x.ge n = true → conc M' x = conc M x
  | .v _, _ => by simp [conc]
  | .tt _, _ => by simp [conc]
  | .ptr id off, hb => by simp [AV.ge] at hb; simp [conc, h id hb]
  | .elt id off j, hb => by simp [AV.ge] at hb; simp [conc, h id hb]
  | .mp id, hb => by simp [AV.ge] at hb; simp [conc, h id hb]
  | .sl id sz off len, hb => by simp [AV.ge] at hb; simp [conc, h id hb]
  | .fn f caps, hb => by simp only [AV.ge] at hb; simp only [conc, concL_congrG h caps hb]
  | .agg l, hb => by simp only [AV.ge] at hb; simp only [conc, concL_congrG h l hb]
  | .tup l, hb => by simp only [AV.ge] at hb; simp only [conc, concL_congrG h l hb]
theorem concL_congrG {M M' : Loc} {n : Nat} (h : ∀ i, n ≤ i → M' i = M i) : ∀ l : List AV, geL n l = true → concL M' l = concL M l
  | [], _ => by simp [concL]
  | x :: r, hb => by
    simp only [geL] at hb
    split at hb
    · rename_i hx; simp only [concL, conc_congrG h x hx, concL_congrG h r hb]
    · cases hb
end

def geSegs (n : Nat) : List Seg → Bool
  | [] => true
  | .one x :: r => match x.ge n with | true => geSegs n r | false => false
  | .vals _ _ :: r => geSegs n r

theorem concSegs_congrG {M M' : Loc} {n : Nat} (h : ∀ i, n ≤ i → M' i = M i) : ∀ l : List Seg, geSegs n l = true → concSegs M' l = concSegs M l
  | [], _ => rfl
  | .one x :: r, hb => by
    simp only [geSegs] at hb
    split at hb
    · rename_i hx; simp only [concSegs, conc_congrG h x hx, concSegs_congrG h r hb]
    · cases hb
  | .vals _ vs :: r, hb => by simp only [geSegs] at hb; simp only [concSegs, concSegs_congrG h r hb]

def Blk.ge (n : Nat) : Blk → Bool
  | .cells _ segs => geSegs n segs
  | .row .. => true
  | .map _ => true
  | .rowA _ _ _ xs => geL n xs

/-- New blocks: numbered from n on, below m, over each other alone. -/
def hGe (n m : Nat) : List (Nat × Blk) → Bool
  | [] => true
  | (i, B) :: r => match Nat.ble n i, Nat.blt i m, B.ge n, B.bel m with | true, true, true, true => hGe n m r | _, _, _, _ => false

theorem hGe_lk {n m : Nat} : ∀ {l : List (Nat × Blk)} {i : Nat} {B : Blk}, hGe n m l = true → lk l i = some B → n ≤ i ∧ i < m ∧ B.ge n = true ∧ B.bel m = true
  | [], i, x, _, h => by cases h
  | (j, y) :: r, i, x, hb, h => by
    simp only [hGe] at hb
    split at hb
    · rename_i h1 h2 h3 h4
      simp only [lk] at h
      split at h
      · rename_i he
        have := Nat.eq_of_beq_eq_true he
        subst this; cases h
        exact ⟨Nat.le_of_ble_eq_true h1, by simpa using h2, h3, h4⟩
      · exact hGe_lk hb h
    · cases hb

theorem lk_append {α : Type} {i : Nat} : ∀ {a b : List (Nat × α)}, lk (a ++ b) i = match lk a i with | some x => some x | none => lk b i
  | [], b => rfl
  | (j, y) :: a, b => by
    simp only [List.cons_append, lk]
    split
    · rfl
    · exact lk_append

theorem BlkAt.congrG {M M' : Loc} {n : Nat} (h : ∀ i, n ≤ i → M' i = M i) {w : World} {id : Nat} (hid : n ≤ id) {B : Blk} (hB : B.ge n = true) (hb : BlkAt M w id B) : BlkAt M' w id B := by
  cases B with
  | cells e segs => exact ⟨by rw [h id hid, concSegs_congrG h segs hB]; exact hb.1, hb.2⟩
  | row e sz n vs =>
    obtain ⟨h1, cur, hc, h2⟩ := hb
    exact ⟨h1, cur, by rw [h id hid]; exact hc, by rw [h id hid]; exact h2⟩
  | map es => obtain ⟨a, ck, hc, h2⟩ := hb; exact ⟨a, ck, by rw [h id hid]; exact hc, h2⟩
  | rowA e sz n xs =>
    obtain ⟨h1, cur, hc, h2⟩ := hb
    exact ⟨h1, cur, by rw [h id hid]; exact hc, by rw [h id hid, concL_congrG h xs hB]; exact h2⟩

/-- What a call hands over: a value over blocks that it has made. -/
structure Handed (z : AV) (h : List (Nat × Blk)) (w : World) (v : Value) (w' : World) : Prop where
  agree : Agree (fun _ => False) w w'
  ex : ∃ M : Loc, conc M z = v ∧ (∀ id B, lk h id = some B → BlkAt M w' id B ∧ w.heap.size ≤ (M id).1) ∧ ∀ id id' B B', lk h id = some B → lk h id' = some B' → (M id).1 = (M id').1 → id = id'

theorem Rel.handed {C : Ctx} (hL : Local C.X) {M : Loc} {fp : Nat → Prop} {σ : St} {a : Act} {w w' : World} {v : Value} {z : AV} {h : List (Nat × Blk)} {m : Nat} (hR : Rel C M fp σ a w) (hh : Handed z h w v w')
    (hbel : σ.bel = true) (hge : hGe σ.nx m h = true) (hz : z.ge σ.nx = true) (hm : σ.nx ≤ m) : ∃ M', conc M' z = v ∧ (∀ i, i < σ.nx → M' i = M i) ∧ Rel C M' fp ⟨σ.t, h ++ σ.h, m⟩ a w' := by
  obtain ⟨hag, Mh, hv, hbl, hin⟩ := hh
  have hR' := hR.agree' hL hag
  unfold St.bel at hbel
  split at hbel <;> first | (cases hbel; done) | skip
  rename_i ht
  let M' : Loc := fun i => if i < σ.nx then M i else Mh i
  have hlo : ∀ i, i < σ.nx → M' i = M i := fun i hi => by simp only [M', if_pos hi]
  have hhi : ∀ i, σ.nx ≤ i → M' i = Mh i := fun i hi => by simp only [M', if_neg (Nat.not_lt.2 hi)]
  have key : ∀ id B, lk (h ++ σ.h) id = some B → (σ.nx ≤ id ∧ lk h id = some B) ∨ (id < σ.nx ∧ lk σ.h id = some B) := by
    intro id B hB
    rw [lk_append] at hB
    split at hB
    · rename_i x hx
      cases hB
      exact .inl ⟨(hGe_lk hge hx).1, hx⟩
    · exact .inr ⟨(lkh_below hbel hB).1, hB⟩
  refine ⟨M', by rw [conc_congrG hhi z hz]; exact hv, hlo, ?_⟩
  have hadr : ∀ id B, lk h id = some B → w.heap.size ≤ (M' id).1 := fun id B hB => by rw [hhi id (hGe_lk hge hB).1]; exact (hbl id B hB).2
  have hadr' : ∀ id B, lk σ.h id = some B → (M' id).1 = (M id).1 ∧ (M id).1 < w.heap.size := fun id B hB => ⟨by rw [hlo id (lkh_below hbel hB).1], (hR.heap id B hB).lt⟩
  refine { heap := ?_, inj := ?_, own := ?_, apart := ?_, agree := hR'.agree, outer := hR'.outer, fpok := hR'.fpok, size := hR'.size, frozen := hR'.frozen, tmps := ?_, defers := hR'.defers }
  · intro id B hB
    rcases key id B hB with ⟨h1, h2⟩ | ⟨h1, h2⟩
    · exact BlkAt.congrG hhi h1 (hGe_lk hge h2).2.2.1 (hbl id B h2).1
    · exact BlkAt.congr hlo h1 (lkh_below hbel h2).2 rfl (hR'.heap id B h2)
  · intro id id' B B' hB hB' e
    rcases key id B hB with ⟨h1, h2⟩ | ⟨h1, h2⟩ <;> rcases key id' B' hB' with ⟨h3, h4⟩ | ⟨h3, h4⟩
    · rw [hhi id h1, hhi id' h3] at e; exact hin _ _ _ _ h2 h4 e
    · have := hadr id B h2; have := hadr' id' B' h4; omega
    · have := hadr id' B' h4; have := hadr' id B h2; omega
    · rw [hlo id h1, hlo id' h3] at e; exact hR.inj _ _ _ _ h2 h4 e
  · intro id B hB hlt
    rcases key id B hB with ⟨h1, h2⟩ | ⟨h1, h2⟩
    · have := hadr id B h2; have := hR.agree.size; omega
    · rw [(hadr' id B h2).1] at hlt ⊢; exact hR.own id B h2 hlt
  · intro id B hB hf
    rcases key id B hB with ⟨h1, h2⟩ | ⟨h1, h2⟩
    · have := hadr id B h2; have := (hR.fpok _ hf).1; omega
    · rw [(hadr' id B h2).1] at hf; exact hR.apart id B h2 hf
  · intro i x hx
    rw [hR.tmps i x hx]
    congr 1
    exact (conc_congr hlo x (lk_below ht hx)).symm

section
variable {C : Ctx} {ops : Array Oper} {i : Nat} {rest : List Nat} {k : List Item} {σ : St} {o : Oper} {c : Call} {g : Operand} {f : FuncId} {caps xs : List AV} {z : AV} {h : List (Nat × Blk)} {m : Nat}

/-- A call that hands over new blocks. -/
theorem Run.callH (hL : Local C.X) (z : AV) (h : List (Nat × Blk)) (m : Nat) (ho : ops[i]? = some o) (hop : o.op = .call c) (hc : c.callee = .value g) (hg : σ.ev g = some (.fn f caps)) (hxs : evs σ c.args.toList = some xs) (hw : wantOf ops σ o = some .yes) (hent : Enters C.P f)
    (hd : dstOK C.n o.dst = true) (hbel : σ.bel = true) (hge : hGe σ.nx m h = true) (hz : z.ge σ.nx = true) (hm : Nat.ble σ.nx m = true)
    (hfn : ∀ M w, (∀ id B, lk σ.h id = some B → BlkAt M w id B) → Agree C.S0 C.w0 w → GivesR C.P f (concL M (xs ++ caps)) w (Handed z h w))
    (hr : Run C (.inRegion ops rest :: k) (St.put ⟨σ.t, h ++ σ.h, m⟩ o.dst z)) : Run C (.inRegion ops (i :: rest) :: k) σ := by
  refine Run.call (σ' := ⟨σ.t, h ++ σ.h, m⟩) (z := z) ho hop hc hg hxs hw hent hd ?_ hr
  intro M fp a w hR
  refine Calls.mono' (hfn M w hR.heap hR.agree) fun e w' ⟨v, h1, h2⟩ => ?_
  obtain ⟨M', hv, _, hR'⟩ := hR.handed hL h2 hbel hge hz (Nat.le_of_ble_eq_true hm)
  exact ⟨v, h1, M', fp, hR', hv⟩

theorem handed_of {M : Loc} {σ : St} {w0 w : World} {x : AV} {ρ : List (Nat × Nat)} (hag : Agree (fun _ => False) w0 w) (hheap : ∀ id B, lk σ.h id = some B → BlkAt M w id B)
    (hinj : ∀ id id' B B', lk σ.h id = some B → lk σ.h id' = some B' → (M id).1 = (M id').1 → id = id') (hown : ∀ id B, lk σ.h id = some B → w0.heap.size ≤ (M id).1)
    (hx : x = ren ρ z) (hh : inHR ρ σ.h h) (ha : apart ρ (keys h) = true) : Handed z h w0 (conc M x) w := by
  refine ⟨hag, fun i => M (ap ρ i), by rw [hx, conc_ren], fun id B hB => ⟨(hheap _ _ (inHR_lk hh _ _ hB)).ren, hown _ _ (inHR_lk hh _ _ hB)⟩, ?_⟩
  intro id id' B B' hB hB' e
  exact apart_spec ha (lk_keys hB) (lk_keys hB') (hinj _ _ _ _ (inHR_lk hh _ _ hB) (inHR_lk hh _ _ hB') e)

/-- The return of what has been made. -/
theorem Run.retH {P : Program} {T : Tab} (hT : tabOK P T) {f : FuncId} {fn : Func} {n : Nat} {w0 : World} {σ : St} {k : List Item} {p : Prop} {l : List AV} (ρ : List (Nat × Nat))
    (hf : P.funcs[f]? = some fn) (hres : resOf T w0 (fun _ => False) σ fn.results.toList = some (p, l)) (hp : p) (hx : resAV l = ren ρ z) (hh : inHR ρ σ.h h) (ha : apart ρ (keys h) = true) :
    Run (fnC P f n w0 (fun _ => False) noX (Handed z h w0)) (.code .ret :: k) σ :=
  Run.ret hT hf hres hp fun M fp a w hR => handed_of hR.agree hR.heap hR.inj (fun id B hB => Nat.le_of_not_lt fun hlt => (hR.own id B hB hlt).elim) hx hh ha

/-- The same behind ranges over functions, in a run that has begun anew. -/
theorem Run.retHB {P : Program} {T : Tab} (hT : tabOK P T) {f : FuncId} {fn : Func} {n : Nat} {w0 w1 : World} {S : Nat → Prop} {X : Res} (hX : Local X) {σ : St} {k : List Item} {p : Prop} {l : List AV} {Ds : List Nat} (ρ : List (Nat × Nat))
    (hB : Based w0 w1 S) (hf : P.funcs[f]? = some fn) (hres : resOf T w1 S σ fn.results.toList = some (p, l)) (hp : p) (hx : resAV l = ren ρ z) (hh : inHR ρ σ.h h) (ha : apart ρ (keys h) = true) :
    Run (fnM P f n w1 S X (Handed z h w0) Ds) (.code .ret :: k) σ :=
  Run.retM hT hX hf hres hp fun M fp a w hR => handed_of (hB.later hR.agree) hR.heap hR.inj
    (fun id B hB' => Nat.le_of_not_lt fun hlt => by
      have h1 := hR.own id B hB' (Nat.lt_of_lt_of_le hlt hB.agree.size)
      have := hB.new _ h1
      omega) hx hh ha

abbrev HandsZ (P : Program) (f : FuncId) (args : List Value) (w : World) (z : AV) (h : List (Nat × Blk)) : Prop := GivesR P f args w (Handed z h w)

theorem HandsZ.of_run {P : Program} {f : FuncId} {fn : Func} {c : Code} {args : List Value} {w : World} (hf : P.funcs[f]? = some fn) (hb : fn.body = some c)
    (hn : args.length ≤ fn.ntmps) (hr : Run (fnC P f fn.ntmps w (fun _ => False) noX (Handed z h w)) [.code c] ⟨argsT 0 args, [], 0⟩) : HandsZ P f args w z h := calls_of_run hf hb hn hr
end
end Go.AM

/-
  The abstract machine, twenty-third part: iterators that hand over blocks which they have made. Own work; over any program.
-/
namespace Go.AM

/-- A value over blocks of a footprint. -/
structure ItemAt (z : AV) (h : List (Nat × Blk)) (w : World) (v : Value) (F : Foot) : Prop where
  ex : ∃ M : Loc, conc M z = v ∧ (∀ id B, lk h id = some B → BlkAt M w id B) ∧ (∀ id id' B B', lk h id = some B → lk h id' = some B' → (M id).1 = (M id').1 → id = id') ∧ ∀ b, F b ↔ ∃ id B, lk h id = some B ∧ (M id).1 = b

/-- What a call of an iterator's argument does, the value handed over lying in blocks that go with it. -/
def YieldsH {α : Type} (P : Program) (y : Value) (J Js : List α → Res) (w1 : World) (fp1 : Foot) (pre : List α) (x : α) (z : AV) (h : List (Nat × Blk)) : Prop :=
  ∀ w fp F v, J pre w fp → ItemAt z h w v F → (∀ b, F b → ¬ fp b) → Grown fp1 w1 (fun b => fp b ∨ F b) w → CallsV P y [v] w fun r w' =>
    ∃ fp', Grown (fun b => fp b ∨ F b) w fp' w' ∧ (r = .bool true ∧ J (pre ++ [x]) w' fp' ∨ r = .bool false ∧ Js (pre ++ [x]) w' fp')

def disj (ρ : List (Nat × Nat)) (l r : List Nat) : Bool := l.all fun i => r.all fun j => !Nat.beq (ap ρ i) j

theorem disj_spec {ρ : List (Nat × Nat)} {l r : List Nat} (h : disj ρ l r = true) {i j : Nat} (hi : i ∈ l) (hj : j ∈ r) : ap ρ i ≠ j := by
  have := List.all_eq_true.1 (List.all_eq_true.1 h i hi) j hj
  intro e
  subst e
  simp at this

theorem Run.yieldH {α : Type} {C : Ctx} {k : List Item} {σ : St} {ops : Array Oper} {i : Nat} {rest : List Nat} {o : Oper} {c : Call} {g : Operand} {y : Value} {u z : AV} {h hrem : List (Nat × Blk)} {J Js : List α → Res} {pre : List α} {x : α} (ρ : List (Nat × Nat))
    (hX : C.X = J pre) (hy : YieldsH C.P y J Js C.w0 C.S0 pre x z h)
    (ho : ops[i]? = some o) (hop : o.op = .call c) (hc : c.callee = .value g) (hg : σ.ev g = some (.v y)) (hxs : evs σ c.args.toList = some [u]) (hu : u = ren ρ z) (hh : inHR ρ σ.h h) (ha : AM.apart ρ (keys h) = true)
    (hrm : inT σ.h hrem) (hdj : disj ρ (keys h) (keys hrem) = true) (hw : wantOf ops σ o = some .yes) (hd : dstOK C.n o.dst = true)
    (ht : Run (C.withX (J (pre ++ [x]))) (.inRegion ops rest :: k) (St.put ⟨σ.t, hrem, σ.nx⟩ o.dst (.tt true)))
    (hf : Run (C.withX (Js (pre ++ [x]))) (.inRegion ops rest :: k) (St.put ⟨σ.t, hrem, σ.nx⟩ o.dst (.tt false))) : Run C (.inRegion ops (i :: rest) :: k) σ := by
  refine Run.callV ho hop hc hg hxs hw fun M fp a w hR => ?_
  have h0 : J pre w fp := by rw [← hX]; exact hR.outer
  let F : Foot := fun b => ∃ id B, lk h id = some B ∧ (M (ap ρ id)).1 = b
  have hlk : ∀ id B, lk h id = some B → lk σ.h (ap ρ id) = some (renB ρ B) := fun id B hB => inHR_lk hh _ _ hB
  have hrl : ∀ id B, lk hrem id = some B → lk σ.h id = some B := fun id B hB => inT_lk hrm _ _ hB
  have hit : ItemAt z h w (conc M u) F := by
    refine ⟨fun i => M (ap ρ i), by rw [hu, conc_ren], fun id B hB => (hR.heap _ _ (hlk _ _ hB)).ren, fun id id' B B' hB hB' e => ?_, fun b => Iff.rfl⟩
    exact apart_spec ha (lk_keys hB) (lk_keys hB') (hR.inj _ _ _ _ (hlk _ _ hB) (hlk _ _ hB') e)
  have hFf : ∀ b, F b → ¬ fp b := by
    rintro b ⟨id, B, hB, rfl⟩
    exact hR.apart _ _ (hlk _ _ hB)
  have hgr : Grown C.S0 C.w0 (fun b => fp b ∨ F b) w := by
    refine ⟨hR.agree, fun b hb => ?_⟩
    rcases hb with hb | ⟨id, B, hB, rfl⟩
    · exact hR.fpok b hb
    · exact ⟨(hR.heap _ _ (hlk _ _ hB)).lt, hR.own _ _ (hlk _ _ hB)⟩
  show CallsV C.P y (concL M [u]) w _
  have e1 : concL M [u] = [conc M u] := by simp [concL]
  rw [e1]
  refine (hy w fp F _ h0 hit hFf hgr).mono fun r w' ⟨fp', hgr', hv⟩ cs => ?_
  have hnF : ∀ id B, lk hrem id = some B → ¬ (fp (M id).1 ∨ F (M id).1) := by
    intro id B hB hf
    rcases hf with hf | ⟨id', B', hB', e⟩
    · exact hR.apart _ _ (hrl _ _ hB) hf
    · exact disj_spec hdj (lk_keys hB') (lk_keys hB) (hR.inj _ _ _ _ (hlk _ _ hB') (hrl _ _ hB) e)
  have hrel : ∀ X : Res, X w' fp' → Rel (C.withX X) M fp' ⟨σ.t, hrem, σ.nx⟩ a w' := by
    intro X hX'
    refine { heap := ?_, inj := fun id id' B B' hB hB' e => hR.inj _ _ _ _ (hrl _ _ hB) (hrl _ _ hB') e, own := fun id B hB => hR.own _ _ (hrl _ _ hB), apart := ?_, agree := ?_, outer := hX', fpok := ?_, size := hR.size, frozen := hR.frozen, tmps := hR.tmps, defers := hR.defers }
    · intro id B hB
      exact (hR.heap _ _ (hrl _ _ hB)).same (hgr'.1.block _ (hR.heap _ _ (hrl _ _ hB)).lt (hnF _ _ hB))
    · intro id B hB hf
      exact hnF _ _ hB ((hgr'.2 _ hf).2 (hR.heap _ _ (hrl _ _ hB)).lt)
    · exact hR.agree.trans hgr'.1 (fun i hi hl => (hgr.2 i hi).2 hl)
    · intro b hb'
      exact ⟨(hgr'.2 b hb').1, fun hl => (hgr.2 b ((hgr'.2 b hb').2 (Nat.lt_of_lt_of_le hl hR.agree.size))).2 hl⟩
  rcases hv with ⟨rfl, hJ⟩ | ⟨rfl, hJ⟩
  · exact ht M fp' _ w' ((hrel _ hJ).put (C := C.withX _) (z := .tt true) (dstOK_lt hd)) cs
  · exact hf M fp' _ w' ((hrel _ hJ).put (C := C.withX _) (z := .tt false) (dstOK_lt hd)) cs

/-- An iterator whose values lie in blocks that go with them. -/
def IterH {α : Type} (P : Program) (f : FuncId) (caps : List Value) (K : Nat → Prop) (w0 : World) (xs : List α) (zf : α → AV) (hf : α → List (Nat × Blk)) : Prop :=
  ∀ (y : Value) (J Js : List α → Res) (w : World) (fp : Foot), (∀ pre, Local (J pre)) → (∀ pre, Local (Js pre)) → (∀ pre x, pre ++ [x] <+: xs → YieldsH P y J Js w fp pre x (zf x) (hf x)) →
    J [] w fp → (∀ b, fp b → b < w.heap.size) → (∀ b, fp b → ¬ K b) → Agree (fun b => ¬ K b) w0 w →
      GivesR P f (y :: caps) w fun _ w' => ∃ fp', Grown fp w fp' w' ∧ (J xs w' fp' ∨ ∃ pre, pre <+: xs ∧ Js pre w' fp')

theorem IterH.of_run {α : Type} {P : Program} {f : FuncId} {fn : Func} {c : Code} {caps : List Value} {K : Nat → Prop} {w0 : World} {xs : List α} {zf : α → AV} {hf' : α → List (Nat × Blk)} (hf : P.funcs[f]? = some fn) (hb : fn.body = some c)
    (hn : (caps.length + 1) ≤ fn.ntmps)
    (h : ∀ (y : Value) (J Js : List α → Res) (w : World) (fp : Foot), (∀ pre, Local (J pre)) → (∀ pre, Local (Js pre)) → (∀ pre x, pre ++ [x] <+: xs → YieldsH P y J Js w fp pre x (zf x) (hf' x)) →
      Agree (fun b => ¬ K b) w0 w → (∀ b, fp b → ¬ K b) → ∀ R : Value → World → Prop, (∀ v w' fp' pre, Grown fp w fp' w' → (pre = xs ∧ J pre w' fp' ∨ pre <+: xs ∧ Js pre w' fp') → R v w') →
        Run (fnC P f fn.ntmps w fp (J []) R) [.code c] ⟨argsT 0 (y :: caps), [], 0⟩) : IterH P f caps K w0 xs zf hf' := by
  intro y J Js w fp hJ hJs hy h0 hfp hK hag
  refine givesX_of_run (S0 := fp) (X := J []) hf hb (by simpa using hn) h0 (fun b hb => ⟨hfp b hb, fun _ => hb⟩) ?_
  refine h y J Js w fp hJ hJs hy hag hK _ fun v w' fp' pre hg hp => ?_
  rcases hp with ⟨rfl, hp⟩ | ⟨h1, h2⟩
  · exact ⟨fp', hg, .inl hp⟩
  · exact ⟨fp', hg, .inr ⟨pre, h1, h2⟩⟩

theorem Run.rangeFnH {α : Type} {C : Ctx} (hL : Local C.X) {k : List Item} {σ : St} {g : Operand} {p : Tmp} {assign body : Code} {f : FuncId} {vs : List Value} {z : AV}
    (hro : C.b.roundOf = none) (hg : σ.ev g = some z) (hz : ∀ M, conc M z = .func (.func f) #[] vs.toArray) (hent : Enters C.P f)
    (lo : Nat) (t : List (Nat × AV)) (htin : inT σ.t t) (hlo : keysLt lo t = true) (hp : Nat.ble lo p = true) (hp2 : Nat.blt p C.n.hi = true)
    {K : Nat → Prop} {xs : List α} {zf : α → AV} {hf : α → List (Nat × Blk)} (hit : IterH C.P f vs K C.w0 xs zf hf) (hK : ∀ b, K b → b < C.w0.heap.size ∧ ¬ C.S0 b)
    (Inv : List α → List (Nat × Blk) → Prop) (Stop : List α → Code → List (Nat × Blk) → Prop) (N m : Nat) (hNm : N ≤ m)
    (htb : tBelow N t = true) (hib : ∀ pre h, Inv pre h → hBelow N h = true) (hfge : ∀ x ∈ xs, hGe N m (hf x) = true) (hzge : ∀ x ∈ xs, (zf x).ge N = true)
    (h0 : List (Nat × Blk)) (hI0 : Inv [] h0) (hin : inT σ.h h0)
    (hround : ∀ D l a0 rc wy fpy pre x h, RoundIn (C.marked D) lo t l wy fpy → pre ++ [x] <+: xs → Inv pre h →
      Run (roundC (C.marked D) lo a0 l rc .ready wy fpy (roundR (C.marked D) t a0 l rc wy fpy (Inv (pre ++ [x])) (Stop (pre ++ [x])))) [.code assign, .beginRound, .code body] ⟨(p, zf x) :: t, hf x ++ h, m⟩)
    (hdone : ∀ D h, Inv xs h → Run (C.marked D) k ⟨t, h, N⟩)
    (hstop : ∀ D pre c h, pre <+: xs → Stop pre c h → Run (C.marked D) (.code c :: k) ⟨t, h, N⟩) :
    Run C (.code (.rangeFunc g #[p] assign body) :: k) σ := by
  intro M fp a w hR cs
  let D := w.heap.size
  let l := w.heap.size + 1
  let rc : Loop := { state := .ready, pending := none, fn := C.b.fn, tmps := a.tmps, params := #[p], assign, body, defers := D }
  let W1 : World := (w.alloc (.deferred (some []))).alloc (.loop rc)
  let y : Value := .func (.yield l) #[] #[]
  have he : (Instr.enterLoop C.b.fn a.tmps #[p] assign body C.b.roundOf).run C.P w = .ok (l, [mark D]) W1 := by rw [hro]; exact run_enterLoop_outer C.b.fn a.tmps #[p] assign body
  have hres : (resolve a.eval (rangeCall g l) 0).run C.P W1 = .ok { target := .fn (.func f) vs.toArray, args := #[y] } W1 := by
    simp [resolve, hR.q.ev hg, hz, Deferred.ofValue, y]
    rfl
  have hinv : (invoke (.fn (.func f) vs.toArray) #[y]).run C.P W1 = .ok (.enter f (y :: vs).toArray) W1 := by
    have : (#[y] ++ vs.toArray : Array Value) = (y :: vs).toArray := by simp
    simp only [invoke, this, hent _ _]
  have s1 := stepR_rangeFunc (P := C.P) (b := C.b) (a := a) (k := k) (cs := cs) (w := w) he hres hinv
  have hws : W1.heap.size = w.heap.size + 2 := by simp only [W1, World.size_alloc]
  have hold : ∀ b, b < w.heap.size → W1.heap[b]? = w.heap[b]? := by
    intro b hb
    rw [heap_alloc_old _ _ b (by rw [World.size_alloc]; omega), heap_alloc_old _ _ b hb]
  have hD : W1.heap[D]? = some (.deferred (some [])) := by
    rw [heap_alloc_old _ _ _ (by rw [World.size_alloc]; omega)]
    exact World.alloc_heap_new _ _
  have hl : W1.heap[l]? = some (.loop rc) := by
    have := World.alloc_heap_new (w.alloc (.deferred (some []))) (.loop rc)
    rw [show (w.alloc (.deferred (some []))).heap.size = l by simp only [World.size_alloc, l]] at this
    exact this
  have hblk : ∀ id B, lk h0 id = some B → lk σ.h id = some B := fun id B hB => inT_lk hin id B hB
  let J : List α → Res := fun pre w fp => ∃ h M fpX, Inv pre h ∧ LoopJ (C.marked D) t a.tmps l rc .ready none h M fpX w fp
  let Js : List α → Res := fun pre w fp => ∃ c h M fpX, Stop pre c h ∧ LoopJ (C.marked D) t a.tmps l rc .done (some c) h M fpX w fp
  have hLm : Local (C.marked D).X := markX_local hL D
  have hJl : ∀ pre, Local (J pre) := fun pre w w' fp ⟨h, M, fpX, h1, h2⟩ _ hs => ⟨h, M, fpX, h1, h2.moved hLm hs⟩
  have hJsl : ∀ pre, Local (Js pre) := fun pre w w' fp ⟨c, h, M, fpX, h1, h2⟩ _ hs => ⟨c, h, M, fpX, h1, h2.moved hLm hs⟩
  let fp1 : Foot := fun b => (fp b ∨ b = D) ∨ b = l ∨ ∃ id B, lk h0 id = some B ∧ (M id).1 = b
  have hfl : ∀ b, fp b → b < w.heap.size := fun b hb => (hR.fpok b hb).1
  have hml : ∀ id B, lk h0 id = some B → (M id).1 < w.heap.size := fun id B hB => (hR.heap _ _ (hblk _ _ hB)).lt
  have hwle : C.w0.heap.size ≤ w.heap.size := hR.agree.size
  have hfp1 : ∀ b, fp1 b → b < W1.heap.size ∧ (b < C.w0.heap.size → C.S0 b) := by
    intro b hb
    rw [hws]
    rcases hb with (hb | rfl) | rfl | ⟨id, B, hB, rfl⟩
    · exact ⟨by have := hfl b hb; omega, (hR.fpok b hb).2⟩
    · exact ⟨by simp only [D]; omega, fun h => by simp only [D] at h; omega⟩
    · exact ⟨by simp only [l]; omega, fun h => by simp only [l] at h; omega⟩
    · exact ⟨by have := hml _ _ hB; omega, hR.own _ _ (hblk _ _ hB)⟩
  have hW1 : Agree C.S0 C.w0 W1 := ⟨hR.agree.os, hR.agree.tape, hR.agree.output, by rw [hws]; omega, fun b hb hs => by rw [hold b (by omega)]; exact hR.agree.block b hb hs⟩
  have hJ0 : J [] W1 fp1 := by
    refine ⟨h0, M, fun b => fp b ∨ b = D, hI0, ?_⟩
    refine { tmps := fun i x hx => hR.tmps i x (inT_lk htin i x hx), heap := ?_, inj := ?_, own := ?_, apart := ?_, outer := ?_, fpok := ?_, rc := hl, lX := ?_, lnew := ?_, foot := fun b => Iff.rfl }
    · exact fun id B hB => (hR.heap _ _ (hblk _ _ hB)).same (hold _ (hml _ _ hB))
    · exact fun id id' B B' hB hB' e => hR.inj _ _ _ _ (hblk _ _ hB) (hblk _ _ hB') e
    · exact fun id B hB => hR.own _ _ (hblk _ _ hB)
    · intro id B hB
      have := hml _ _ hB
      refine ⟨fun hf => ?_, fun e => by simp only [l] at e; omega⟩
      rcases hf with hf | hf
      · exact hR.apart _ _ (hblk _ _ hB) hf
      · simp only [D] at hf; omega
    · exact ⟨fp, hL w W1 fp hR.outer hfl (fun b hb => hold b (hfl b hb)), fun hf => Nat.lt_irrefl _ (hfl _ hf), hD, fun b => Iff.rfl⟩
    · intro b hb
      exact hfp1 b (.inl hb)
    · intro hf
      rcases hf with hf | hf
      · have := hfl _ hf; simp only [l] at this; omega
      · simp only [l, D] at hf; omega
    · show C.w0.heap.size ≤ l
      simp only [l]; omega
  have hys : ∀ pre x, pre ++ [x] <+: xs → YieldsH C.P y J Js W1 fp1 pre x (zf x) (hf x) := by
    intro pre x hpx wy fpy F v hJy hitem hFf hgr
    obtain ⟨h, M', fpX, hinvp, hJ⟩ := hJy
    obtain ⟨Mi, hv, hbi, hji, hFi⟩ := hitem
    have hx := hpx.subset (show x ∈ pre ++ [x] by simp)
    have hge := hfge x hx
    have hzg := hzge x hx
    have hbel := hib _ _ hinvp
    have hag : Agree C.S0 C.w0 wy := hW1.trans hgr.1 (fun i hi hl => (hfp1 i hi).2 hl)
    let fpz : Foot := fun b => fpy b ∨ F b
    have hfy : ∀ b, fpz b → b < C.w0.heap.size → C.S0 b := fun b hb hlt => (hfp1 b ((hgr.2 b hb).2 (by have := hW1.size; omega))).2 hlt
    let M'' : Loc := fun i => if i < N then M' i else Mi i
    have hlow : ∀ i, i < N → M'' i = M' i := fun i hi => by simp only [M'', if_pos hi]
    have hhi : ∀ i, N ≤ i → M'' i = Mi i := fun i hi => by simp only [M'', if_neg (Nat.not_lt.2 hi)]
    have key : ∀ id B, lk (hf x ++ h) id = some B → (N ≤ id ∧ lk (hf x) id = some B) ∨ (id < N ∧ lk h id = some B) := by
      intro id B hB
      rw [lk_append] at hB
      split at hB
      · rename_i u hu
        cases hB
        exact .inl ⟨(hGe_lk hge hu).1, hu⟩
      · exact .inr ⟨(lkh_below hbel hB).1, hB⟩
    have hinF : ∀ id B, lk (hf x) id = some B → F (Mi id).1 := fun id B hB => (hFi _).2 ⟨id, B, hB, rfl⟩
    have hinY : ∀ id B, lk h id = some B → fpy (M' id).1 := fun id B hB => (hJ.foot _).2 (.inr (.inr ⟨id, B, hB, rfl⟩))
    have hrun := run_yield (P := C.P) (args := #[v]) hJ.rc (by simp [rc])
    refine ⟨{ target := .fn (.yield l) #[], args := #[v] }, _, by simp [Deferred.ofValue, y], by simp only [invoke]; exact hrun, ?_⟩
    intro c cs'
    have hpl : p < a.tmps.size := by rw [hR.size]; simpa using hp2
    let a' : Act := { tmps := a.tmps.setIfInBounds p v, defers := [] }
    have htm : (#[p].zip #[v]).foldl (fun tmps (q : Nat × Value) => tmps.setIfInBounds q.1 q.2) a.tmps = a.tmps.setIfInBounds p v := by simp
    have hI : RoundIn (C.marked D) lo t l wy fpz := ⟨hLm, .inl ((hJ.foot l).2 (.inr (.inl rfl))), hag, hfy, hJ.lnew, hlo⟩
    have hrel : Rel (roundC (C.marked D) lo a.tmps l rc .ready wy fpz (roundR (C.marked D) t a.tmps l rc wy fpz (Inv (pre ++ [x])) (Stop (pre ++ [x])))) M'' (fun b => fpX b ∨ b = l) ⟨(p, zf x) :: t, hf x ++ h, m⟩ a' wy := by
      refine { heap := ?_, inj := ?_, own := ?_, apart := ?_, agree := Agree.refl _ _, outer := ⟨fpX, hJ.outer, hJ.lX, hJ.rc, fun b => Iff.rfl⟩, fpok := ?_, size := ?_, frozen := ?_, tmps := ?_, defers := rfl }
      · intro id B hB
        rcases key id B hB with ⟨h1, h2⟩ | ⟨h1, h2⟩
        · exact BlkAt.congrG hhi h1 (hGe_lk hge h2).2.2.1 (hbi id B h2)
        · exact BlkAt.congr hlow h1 (lkh_below hbel h2).2 rfl (hJ.heap id B h2)
      · intro id id' B B' hB hB' e
        rcases key id B hB with ⟨h1, h2⟩ | ⟨h1, h2⟩ <;> rcases key id' B' hB' with ⟨h3, h4⟩ | ⟨h3, h4⟩
        · rw [hhi id h1, hhi id' h3] at e; exact hji _ _ _ _ h2 h4 e
        · rw [hhi id h1, hlow id' h3] at e; exact (hFf _ (hinF _ _ h2) (e ▸ hinY _ _ h4)).elim
        · rw [hlow id h1, hhi id' h3] at e; exact (hFf _ (hinF _ _ h4) (e ▸ hinY _ _ h2)).elim
        · rw [hlow id h1, hlow id' h3] at e; exact hJ.inj _ _ _ _ h2 h4 e
      · intro id B hB _
        rcases key id B hB with ⟨h1, h2⟩ | ⟨h1, h2⟩
        · rw [hhi id h1]; exact .inr (hinF _ _ h2)
        · rw [hlow id h1]; exact .inl (hinY _ _ h2)
      · intro id B hB hf'
        rcases key id B hB with ⟨h1, h2⟩ | ⟨h1, h2⟩
        · rw [hhi id h1] at hf'
          refine hFf _ (hinF _ _ h2) ((hJ.foot _).2 ?_)
          exact hf'.imp (fun h => h) .inl
        · rw [hlow id h1] at hf'
          exact hf'.elim (hJ.apart _ _ h2).1 (hJ.apart _ _ h2).2
      · intro b hb
        have hb' : fpy b := (hJ.foot b).2 (hb.imp id .inl)
        exact ⟨(hgr.2 b (.inl hb')).1, fun _ => .inl hb'⟩
      · show a'.tmps.size = C.n.hi
        simp only [a', Array.size_setIfInBounds]; exact hR.size
      · intro i hi
        show (a.tmps.setIfInBounds p v)[i]? = a.tmps[i]?
        have hi' : i < lo := hi
        have : p ≠ i := fun e => Nat.lt_irrefl i (Nat.lt_of_lt_of_le hi' (e ▸ Nat.le_of_ble_eq_true hp))
        rw [Array.getElem?_setIfInBounds, if_neg this]
      · intro i u hu
        simp only [lk] at hu
        show (a.tmps.setIfInBounds p v)[i]? = _
        split at hu
        · rename_i he
          have e := Nat.eq_of_beq_eq_true he
          subst e; cases hu
          rw [Array.getElem?_setIfInBounds, if_pos rfl, if_pos hpl, conc_congrG hhi _ hzg, hv]
        · rename_i he
          have hne : p ≠ i := fun e => by subst e; simp at he
          rw [Array.getElem?_setIfInBounds, if_neg hne, hJ.tmps i u hu, conc_congr hlow u (lk_below htb hu)]
    obtain ⟨m', s, zz⟩ := hround D l a.tmps rc wy fpz pre x h hI hpx hinvp M'' _ a' wy hrel (c :: cs')
    obtain ⟨r, w', rfl, fp', hg', hv'⟩ := zz c cs' rfl
    refine ⟨r, w', ⟨fp', hg', ?_⟩, ?_⟩
    · rcases hv' with ⟨hv', hh⟩ | ⟨hv', hh⟩
      · obtain ⟨h', M', fpX', e1, e2⟩ := hh; exact .inl ⟨hv', h', M', fpX', e1, e2⟩
      · obtain ⟨c', h', M', fpX', e1, e2⟩ := hh; exact .inr ⟨hv', c', h', M', fpX', e1, e2⟩
    · have hfr : Frame.round l C.b.fn ((#[p].zip #[v]).foldl (fun tmps (q : Nat × Value) => tmps.setIfInBounds q.1 q.2) a.tmps) assign body .normal =
          (roundC (C.marked D) lo a.tmps l rc .ready wy fpz (roundR (C.marked D) t a.tmps l rc wy fpz (Inv (pre ++ [x])) (Stop (pre ++ [x])))).b.atR a' [.code assign, .beginRound, .code body] := by
        rw [htm]; simp [Frame.round, Frame.atR, roundC, Ctx.marked, a']
      exact hfr ▸ s
  have hcall := hit y J Js W1 fp1 hJl hJsl hys hJ0 (fun b hb => (hfp1 b hb).1) (fun b hb hk => (hK b hk).2 ((hfp1 b hb).2 (hK b hk).1))
    ⟨hW1.os, hW1.tape, hW1.output, hW1.size, fun b hb hk => hW1.block b hb (fun hs => by
      have : K b := Classical.byContradiction hk
      exact (hK b this).2 hs)⟩
  obtain ⟨e, w', fr, ⟨v, rfl, fp', hgr, hend⟩, hsteps, _, hleave⟩ := hcall (C.b.atR { a with defers := [mark D] ++ a.defers } (.inRangeFunc l :: k) :: cs)
  have s2 := step_leave_returned (c := C.b.atR { a with defers := [mark D] ++ a.defers } (.inRangeFunc l :: k)) (cs := cs) hleave
  rw [finish_atR_inRangeFunc] at s2
  have hag : Agree C.S0 C.w0 w' := hW1.trans hgr.1 (fun i hi hl => (hfp1 i hi).2 hl)
  have key : ∀ (st : LoopState) (pd : Option Code) (h : List (Nat × Blk)) (M' : Loc) (fpX : Foot), st ≠ .busy → LoopJ (C.marked D) t a.tmps l rc st pd h M' fpX w' fp' →
      Run (C.marked D) ((pd.map Item.code).toList ++ k) ⟨t, h, N⟩ → ∃ m, Steps C.P (lone (C.b.atR a (.code (.rangeFunc g #[p] assign body) :: k)) cs w) m ∧ C.Z cs m := by
    intro st pd h M' fpX hst hJ hr
    obtain ⟨k1, k2, k3⟩ := hJ.record hLm (o := .loop { rc with state := .exhausted, pending := pd })
    have hrel : Rel (C.marked D) M' fpX ⟨t, h, N⟩ { a with defers := [mark D] ++ a.defers } (w'.putObj l (.loop { rc with state := .exhausted, pending := pd })) := by
      refine { heap := k1, inj := hJ.inj, own := hJ.own, apart := fun id B hB => (hJ.apart _ _ hB).1, agree := ?_, outer := k2, fpok := k3, size := hR.size, frozen := hR.frozen, tmps := hJ.tmps, defers := ?_ }
      · refine agree_putObj hag (fun h => ?_)
        have : C.w0.heap.size ≤ l := hJ.lnew
        exact absurd (show l < C.w0.heap.size from h) (by omega)
      · show [mark D] ++ a.defers = mark D :: C.ds
        rw [hR.defers]; rfl
    obtain ⟨m, s, zz⟩ := hr M' fpX _ _ hrel cs
    have s3 := stepR_endRangeFunc (P := C.P) (b := C.b) (a := { a with defers := [mark D] ++ a.defers }) (k := k) (cs := cs) (run_endLoop (P := C.P) hJ.rc hst)
    exact ⟨m, .head s1 (Steps.trans hsteps (.head s2 (.head s3 s))), zz⟩
  rcases hend with ⟨h, M', fpX, hI, hJ⟩ | ⟨pre, hpre, c, h, M', fpX, hS, hJ⟩
  · exact key .ready none h M' fpX (by simp) hJ (hdone D h hI)
  · exact key .done (some c) h M' fpX (by simp) hJ (hstop D pre c h hpre hS)
end Go.AM

/-
  The abstract machine, twenty-fourth part: functions that work on blocks which are handed to them; calls by what follows them. Own work; over any program.
-/
namespace Go.AM

def argsA : Nat → List AV → List (Nat × AV)
  | _, [] => []
  | i, x :: r => (i, x) :: argsA (i + 1) r

theorem argsA_lk : ∀ {l : List AV} {i j : Nat} {x : AV}, lk (argsA i l) j = some x → i ≤ j ∧ l[j - i]? = some x
  | [], i, j, x, h => by cases h
  | y :: r, i, j, x, h => by
    simp only [argsA, lk] at h
    split at h
    · rename_i he
      have e := Nat.eq_of_beq_eq_true he
      subst e; cases h
      exact ⟨Nat.le_refl _, by simp⟩
    · rename_i he
      obtain ⟨h1, h2⟩ := argsA_lk h
      refine ⟨by omega, ?_⟩
      rw [show j - i = (j - (i + 1)) + 1 by omega]; simpa using h2

theorem concL_get {M : Loc} : ∀ {l : List AV} {j : Nat} {x : AV}, l[j]? = some x → (concL M l)[j]? = some (conc M x)
  | y :: r, 0, x, h => by simp at h; subst h; simp [concL]
  | y :: r, j + 1, x, h => by simp at h; simp only [concL, List.getElem?_cons_succ]; exact concL_get h

theorem concL_length {M : Loc} : ∀ (l : List AV), (concL M l).length = l.length
  | [] => by simp [concL]
  | y :: r => by simp [concL, concL_length r]

/-- What a footprint and some blocks take up. -/
def footH (M : Loc) (fp : Foot) (h : List (Nat × Blk)) : Foot := fun b => fp b ∨ ∃ id B, lk h id = some B ∧ (M id).1 = b

/-- A call to which blocks are handed. -/
theorem givesO_of_run {P : Program} {f : FuncId} {fn : Func} {c : Code} {args : List AV} {h : List (Nat × Blk)} {nx : Nat} {M : Loc} {w : World} {X : Res} {fp : Foot} {R : Value → World → Prop} (hf : P.funcs[f]? = some fn) (hb : fn.body = some c)
    (hn : args.length ≤ fn.ntmps) (hX : X w fp) (hfp : ∀ b, fp b → b < w.heap.size)
    (hh : ∀ id B, lk h id = some B → BlkAt M w id B) (hi : ∀ id id' B B', lk h id = some B → lk h id' = some B' → (M id).1 = (M id').1 → id = id') (ha : ∀ id B, lk h id = some B → ¬ fp (M id).1)
    (hr : Run (fnC P f fn.ntmps w (footH M fp h) X R) [.code c] ⟨argsA 0 args, h, nx⟩) : GivesR P f (concL M args) w R := by
  intro cs
  let a : Act := { tmps := (concL M args).toArray ++ Array.replicate (fn.ntmps - (concL M args).length) undef, defers := [] }
  let b : Frame := { (default : Frame) with fn := f, kind := .normal, roundOf := none }
  have henter : Frame.enter P f (concL M args).toArray .normal = b.atR a [.code c] := by
    simp [Frame.enter, Frame.atR, hf, hb, b, a]
  have hR : Rel (fnC P f fn.ntmps w (footH M fp h) X R) M fp ⟨argsA 0 args, h, nx⟩ a w := by
    refine { heap := hh, inj := hi, own := fun id B hB _ => .inr ⟨id, B, hB, rfl⟩, apart := ha, agree := Agree.refl _ _, outer := hX,
             fpok := fun b hb => ⟨hfp b hb, fun _ => .inl hb⟩, size := by simp [a, fnC, concL_length]; omega, frozen := fun i hi => absurd hi (Nat.not_lt_zero _), tmps := ?_, defers := rfl }
    intro i x hx
    obtain ⟨_, h2⟩ := argsA_lk hx
    simp only [Nat.sub_zero] at h2
    have h3 := concL_get (M := M) h2
    have hlt := (List.getElem?_eq_some_iff.1 h3).1
    simp only [a]
    rw [Array.getElem?_append_left (by simpa using hlt)]
    simpa using h3
  obtain ⟨m, s, v, w', fr, rfl, h1, h2, h3⟩ := hr M fp a w hR cs
  rw [henter]
  exact ⟨.returned v, w', fr, ⟨v, rfl, h3⟩, s, h1, h2⟩

/-- A call, by what follows it. -/
theorem Run.callK {C : Ctx} {k : List Item} {σ : St} {ops : Array Oper} {i : Nat} {rest : List Nat} {o : Oper} {c : Call} {g : Operand} {f : FuncId} {caps xs : List AV}
    (ho : ops[i]? = some o) (hop : o.op = .call c) (hc : c.callee = .value g) (hg : σ.ev g = some (.fn f caps)) (hxs : evs σ c.args.toList = some xs) (hw : wantOf ops σ o = some .yes) (hent : Enters C.P f)
    (hd : dstOK C.n o.dst = true)
    (hcon : ∀ M fp a w, Rel C M fp σ a w → GivesR C.P f (concL M (xs ++ caps)) w (fun v w' => ∃ X' M' fp' σ' z, conc M' z = v ∧ Rel (C.withX X') M' fp' σ' a w' ∧ Run (C.withX X') (.inRegion ops rest :: k) (σ'.put o.dst z))) :
    Run C (.inRegion ops (i :: rest) :: k) σ := by
  intro M fp a w hR cs
  have hnd : ∀ c, o.op ≠ .defer c := fun c e => by rw [hop] at e; cases e
  have h2 : c.args.map a.eval = (concL M xs).toArray := by apply Array.ext'; simpa using evs_conc hR.q hxs
  have hr : (execOp a.eval o).run C.P w = .ok (.enter f (concL M (xs ++ caps)).toArray) w := by
    simp only [execOp, hop, resolve, hc, h2, hR.q.ev hg, conc, Deferred.ofValue]
    simp [invoke, hent _ _, concL_append]
  have s1 := step_call (b := C.b) (k := k) (cs := cs) (rest := rest) ho (wantOf_yes hR.q hw) hnd hr
  obtain ⟨e, w', fr, ⟨v, rfl, X', M', fp', σ', z, hz, hR', hrun⟩, hsteps, _, hleave⟩ := hcon M fp a w hR (C.b.atR a (.inRegion ops (i :: rest) :: k) :: cs)
  obtain ⟨m, s, e⟩ := hrun M' fp' _ w' (hR'.put (C := C.withX X') (z := z) (dstOK_lt hd)) cs
  have hfin : (C.b.atR a (.inRegion ops (i :: rest) :: k)).finish v = C.b.atR (a.put o.dst v) (.inRegion ops rest :: k) := by rw [Frame.finish_atR, ho]; rfl
  refine ⟨m, .head s1 (Steps.trans hsteps (.head (step_leave_returned hleave) ?_)), e⟩
  rw [hfin, ← hz]; exact s

theorem YieldsH.rebase {α : Type} {P : Program} {y : Value} {J Js : List α → Res} {w1 w2 : World} {fp1 fp2 : Foot} {pre : List α} {x : α} {z : AV} {h : List (Nat × Blk)} (hy : YieldsH P y J Js w1 fp1 pre x z h) (hg : Grown fp1 w1 fp2 w2) :
    YieldsH P y J Js w2 fp2 pre x z h := fun w fp F v h1 h2 h3 h4 => hy w fp F v h1 h2 h3 (hg.trans h4)

/-- What is handed over, numbered otherwise. -/
theorem Handed.to {z z' : AV} {h h' : List (Nat × Blk)} {w w' : World} {v : Value} (ρ : List (Nat × Nat)) (H : Handed z h w v w') (hz : z = ren ρ z') (hh : inHR ρ h h') (ha : AM.apart ρ (keys h') = true) : Handed z' h' w v w' := by
  obtain ⟨hag, M, hv, hb, hi⟩ := H
  refine ⟨hag, fun i => M (ap ρ i), by rw [← conc_ren, ← hz, hv], fun id B hB => ?_, fun id id' B B' hB hB' e => ?_⟩
  · have := hb _ _ (inHR_lk hh _ _ hB)
    exact ⟨this.1.ren, this.2⟩
  · exact apart_spec ha (lk_keys hB) (lk_keys hB') (hi _ _ _ _ (inHR_lk hh _ _ hB) (inHR_lk hh _ _ hB') e)
theorem HandsZ.to {P : Program} {f : FuncId} {args : List Value} {w : World} {z z' : AV} {h h' : List (Nat × Blk)} (ρ : List (Nat × Nat)) (H : HandsZ P f args w z h) (hz : z = ren ρ z') (hh : inHR ρ h h') (ha : AM.apart ρ (keys h') = true) : HandsZ P f args w z' h' :=
  Calls.mono' H fun _ _ ⟨v, h1, h2⟩ => ⟨v, h1, h2.to ρ hz hh ha⟩

/-- The return of whatever, by what the state says. -/
theorem Run.retS {P : Program} {T : Tab} (hT : tabOK P T) {f : FuncId} {fn : Func} {n : Nat} {w0 : World} {S0 : Nat → Prop} {X : Res} {R : Value → World → Prop} {σ : St} {k : List Item} {p : Prop} {l : List AV}
    (hf : P.funcs[f]? = some fn) (h : resOf T w0 S0 σ fn.results.toList = some (p, l)) (hp : p)
    (hR : ∀ M fp a w, Rel (fnC P f n w0 S0 X R) M fp σ a w → R (conc M (resAV l)) w) : Run (fnC P f n w0 S0 X R) (.code .ret :: k) σ := Run.ret hT hf h hp hR
/-! ### Parameters that stand still -/

/-- A function's surroundings in which the first temporaries are never written. -/
abbrev fnL (P : Program) (f : FuncId) (lo n : Nat) (t0 : Array Value) (w : World) (S0 : Nat → Prop) (X : Res) (R : Value → World → Prop) : Ctx := { fnC P f n w S0 X R with n := ⟨lo, n⟩, t0 := t0 }

theorem givesL_of_run {P : Program} {f : FuncId} {fn : Func} {c : Code} {args : List AV} {h : List (Nat × Blk)} {nx : Nat} {M : Loc} {w : World} {X : Res} {fp : Foot} {R : Value → World → Prop} (hf : P.funcs[f]? = some fn) (hb : fn.body = some c)
    (hn : args.length ≤ fn.ntmps) (hX : X w fp) (hfp : ∀ b, fp b → b < w.heap.size)
    (hh : ∀ id B, lk h id = some B → BlkAt M w id B) (hi : ∀ id id' B B', lk h id = some B → lk h id' = some B' → (M id).1 = (M id').1 → id = id') (ha : ∀ id B, lk h id = some B → ¬ fp (M id).1)
    (hr : Run (fnL P f args.length fn.ntmps (concL M args).toArray w (footH M fp h) X R) [.code c] ⟨argsA 0 args, h, nx⟩) : GivesR P f (concL M args) w R := by
  intro cs
  let a : Act := { tmps := (concL M args).toArray ++ Array.replicate (fn.ntmps - (concL M args).length) undef, defers := [] }
  let b : Frame := { (default : Frame) with fn := f, kind := .normal, roundOf := none }
  have henter : Frame.enter P f (concL M args).toArray .normal = b.atR a [.code c] := by
    simp [Frame.enter, Frame.atR, hf, hb, b, a]
  have hR : Rel (fnL P f args.length fn.ntmps (concL M args).toArray w (footH M fp h) X R) M fp ⟨argsA 0 args, h, nx⟩ a w := by
    refine { heap := hh, inj := hi, own := fun id B hB _ => .inr ⟨id, B, hB, rfl⟩, apart := ha, agree := Agree.refl _ _, outer := hX,
             fpok := fun b hb => ⟨hfp b hb, fun _ => .inl hb⟩, size := by simp [a, concL_length]; omega, frozen := fun i hi => ?_, tmps := ?_, defers := rfl }
    · have hi' : i < args.length := hi
      simp only [a]
      rw [Array.getElem?_append_left (by simpa [concL_length] using hi')]
    · intro i x hx
      obtain ⟨_, h2⟩ := argsA_lk hx
      simp only [Nat.sub_zero] at h2
      have h3 := concL_get (M := M) h2
      have hlt := (List.getElem?_eq_some_iff.1 h3).1
      simp only [a]
      rw [Array.getElem?_append_left (by simpa using hlt)]
      simpa using h3
  obtain ⟨m, s, v, w', fr, rfl, h1, h2, h3⟩ := hr M fp a w hR cs
  rw [henter]
  exact ⟨.returned v, w', fr, ⟨v, rfl, h3⟩, s, h1, h2⟩

theorem Run.retF {P : Program} {T : Tab} (hT : tabOK P T) {f : FuncId} {fn : Func} {lo n : Nat} {t0 : Array Value} {w0 : World} {S0 : Nat → Prop} {X : Res} {R : Value → World → Prop} {σ : St} {k : List Item} {p : Prop} {l : List AV}
    (hf : P.funcs[f]? = some fn) (h : resOf T w0 S0 σ fn.results.toList = some (p, l)) (hp : p)
    (hR : ∀ M fp a w, Rel (fnL P f lo n t0 w0 S0 X R) M fp σ a w → R (conc M (resAV l)) w) : Run (fnL P f lo n t0 w0 S0 X R) (.code .ret :: k) σ := by
  intro M fp a w hr cs
  refine ⟨_, .one (stepR_ret rfl), _, w, _, rfl, rfl, ⟨rfl, hr.defers, rfl, fn, hf, ?_⟩, hR M fp a w hr⟩
  exact results_run hT hr (fn := fn) h hp

/-- Where a parameter that stands still points. -/
theorem Rel.still {C : Ctx} {M : Loc} {fp : Nat → Prop} {σ : St} {a : Act} {w : World} (hR : Rel C M fp σ a w) {i id off b o : Nat} (hi : i < C.n.lo) (h0 : C.t0[i]? = some (.pointer (some ⟨b, o, none⟩))) (ht : lk σ.t i = some (.ptr id off)) : (M id).1 = b := by
  have h1 := hR.frozen i hi
  rw [hR.tmps i _ ht, h0] at h1
  simp only [conc, Option.some.injEq, Value.pointer.injEq, Addr.mk.injEq] at h1
  exact h1.1
end Go.AM

/-
  Orders made number by number: what the maker holds; is a number ready. Own work.
-/
namespace Go.Proofs.YtocpkgckllbjlaaDoor
open Go.AM
set_option maxRecDepth 100000

/-- The maker's cells: what must stand ahead of each number, how many, the list, what is done. -/
def ordV (A : Rl) (n : Nat) (sv : Value) (dn : BitVec 64) : List Value := (rowV A ++ [.int .i64 (n : Int)]) ++ [sv, .int .u64 (un dn)]

structure OrdC (w : World) (b : Nat) (A : Rl) (n : Nat) (sv : Value) (dn : BitVec 64) : Prop where
  at' : w.heap[b]? = some (.cells (ordV A n sv dn).toArray 96 (0, 0))

theorem OrdC.cell {w : World} {b : Nat} {A : Rl} {n : Nat} {sv : Value} {dn : BitVec 64} (h : OrdC w b A n sv dn) (q : Nat) : w.cell? ⟨b, q, none⟩ = (ordV A n sv dn)[q]? := by
  have := cells_of_blk (M := fun _ => (b, 0)) (w := w) (id := 0) (e := 96) (segs := [.vals 67 (ordV A n sv dn)]) ⟨by simpa [concSegs] using h.at', ⟨by simp [ordV], trivial⟩⟩ q
  simpa [concSegs] using this

theorem ordV_row (A : Rl) (n : Nat) (sv : Value) (dn : BitVec 64) (i : Nat) (hi : i < 64) : (ordV A n sv dn)[i]? = some (.int .u64 (un (A.row i))) := by
  unfold ordV
  rw [List.append_assoc, List.getElem?_append_left (by simpa using hi), rowV_get A i hi]
theorem ordV_done (A : Rl) (n : Nat) (sv : Value) (dn : BitVec 64) : (ordV A n sv dn)[66]? = some (.int .u64 (un dn)) := by
  unfold ordV
  rw [List.getElem?_append_right (by simp)]
  simp

theorem bit0 (x : BitVec 64) (i : Nat) : (band .u64 (un (x >>> i)) 1 = 0) ↔ x.getLsbD i = false := by
  rw [band1_un, un_eq0]
  constructor
  · intro h
    have := congrArg (fun z : BitVec 64 => z.getLsbD 0) h
    simpa using this
  · intro h
    apply BitVec.eq_of_getLsbD_eq
    intro j _
    rw [BitVec.getLsbD_and, BitVec.getLsbD_ushiftRight, BitVec.getLsbD_zero]
    cases j with
    | zero => simp [h]
    | succ j => simp [BitVec.getLsbD_one]

/-- May a number come next? -/
def rdyB (A : Rl) (dn : BitVec 64) (i : Nat) : Bool := !dn.getLsbD i && decide (A.row i &&& ~~~dn = 0#64)

theorem ready_ok (A : Rl) (n : Nat) (sv : Value) (dn : BitVec 64) (b i : Nat) (w : World) (h : OrdC w b A n sv dn) (hi : i < 64) :
    Gives Tryd.prog 91 [.pointer (some ⟨b, 0, none⟩), .int .i64 (i : Int)] w (.bool (rdyB A dn i)) := by
  refine Gives.of_run Tryd.func91 rfl (by show 2 ≤ 27; decide) ?_
  have c0 : w.cell? ⟨b, 66, none⟩ = some (.int .u64 (un dn)) := by rw [h.cell]; exact ordV_done _ _ _ _
  have c1 : w.cell? ⟨b, i, none⟩ = some (.int .u64 (un (A.row i))) := by rw [h.cell]; exact ordV_row _ _ _ _ _ hi
  refine RunF_sound tab_ok noX_local 100 [] _ _ rfl ?_ ?_
  · simp
  refine Run.drawA noX_local rfl [] [] rfl rfl trivial ?_
  by_cases c : dn.getLsbD i = true
  · refine RunOF_sound tab_ok noX_local rfl rfl 200 [false] _ _ rfl ?_ ?_
    · simp only [fnC_w0, fnC_S0, add_lit', Nat.zero_add, c0]
      simp [bit0, c]
    refine RunO.done ?_
    refine RunF_sound tab_ok noX_local 100 [] _ _ rfl ?_ ?_
    · simp
    refine Run.retP tab_ok Tryd.func91 rfl trivial (fun M => ?_)
    simp [conc, rdyB, c]
  · refine RunOF_sound tab_ok noX_local rfl rfl 200 [true] _ _ rfl ?_ ?_
    · simp only [fnC_w0, fnC_S0, add_lit', Nat.zero_add, Int.toNat_natCast, Nat.mul_one, c0, c1]
      simp [bit0, c]; omega
    refine RunO.done ?_
    refine RunF_sound tab_ok noX_local 100 [] _ _ rfl ?_ ?_
    · simp
    refine Run.retP tab_ok Tryd.func91 rfl trivial (fun M => ?_)
    simp only [fnC_w0, add_lit', Nat.zero_add, Int.toNat_natCast, Nat.mul_one, c0, c1]
    simp [conc, rdyB, c]
    rw [Bool.eq_iff_iff]; simp
theorem ready_enters : Enters Tryd.prog 91 := enters_mk Tryd.func91 (by decide) rfl

def encN (l : List Nat) : List Value := l.map fun i : Nat => Value.int .i64 (i : Int)
@[simp] theorem encN_length (l : List Nat) : (encN l).length = l.length := by simp [encN]
theorem encN_append (l m : List Nat) : encN (l ++ m) = encN l ++ encN m := by simp [encN]
theorem encN_one (l : List Nat) : ∀ u ∈ encN l, u.oneCell' = true := by
  intro u hu
  simp only [encN, List.mem_map] at hu
  obtain ⟨i, _, rfl⟩ := hu; rfl

/-- All orders that begin with a list, by how many are missing. -/
def extL (A : Rl) (n : Nat) : Nat → List Nat → BitVec 64 → List (List Nat)
  | 0, l, _ => [l]
  | d + 1, l, dn => (List.range n).flatMap fun i => if rdyB A dn i then extL A n d (l ++ [i]) (dn ||| 1#64 <<< i) else []

/-- A slice of numbers: nothing, or a row. -/
def SlAt (w : World) (sv : Value) (l : List Nat) : Option Nat → Prop
  | none => sv = .slice none 0 0 ∧ l = []
  | some b => ∃ cap n vs, sv = .slice (some ⟨b, 0, none⟩) l.length cap ∧ BlkAt (fun _ => (b, cap)) w 0 (.row 3 1 n vs) ∧ l.length ≤ n ∧ vs.take l.length = encN l

structure OnSt (w : World) (bo : Nat) (br : Option Nat) (A : Rl) (n : Nat) (l : List Nat) (dn : BitVec 64) : Prop where
  ex : ∃ sv, OrdC w bo A n sv dn ∧ SlAt w sv l br
  ne : br ≠ some bo

def onF (fp : Foot) (bo : Nat) (br : Option Nat) : Foot := fun b => fp b ∨ b = bo ∨ br = some b

/-- An order, handed over. -/
def zI (x : List Nat) : AV := .sl 50 1 0 x.length
def hI (x : List Nat) : List (Nat × Blk) := [(50, .row 3 1 x.length (encN x))]

def OnRes (w : World) (fp : Foot) (bo : Nat) (br : Option Nat) (A : Rl) (n : Nat) (l : List Nat) (dn : BitVec 64) (J Js : List (List Nat) → Res) (pre outs : List (List Nat)) (v : Value) (w' : World) : Prop :=
  ∃ fp' br', OnSt w' bo br' A n l dn ∧ Grown (onF fp bo br) w (onF fp' bo br') w' ∧ ¬ fp' bo ∧ (∀ b, br' = some b → ¬ fp' b) ∧
    (v = .bool true ∧ J (pre ++ outs) w' fp' ∨ v = .bool false ∧ ∃ q, q <+: pre ++ outs ∧ Js q w' fp')

def OnOK (A : Rl) (n d : Nat) : Prop := ∀ (l : List Nat) (dn : BitVec 64) (bo : Nat) (br : Option Nat) (w : World) (fp : Foot) (J Js : List (List Nat) → Res) (y : Value) (pre : List (List Nat)), l.length + d = n → OnSt w bo br A n l dn →
  (∀ b, onF fp bo br b → b < w.heap.size) → ¬ fp bo → (∀ b, br = some b → ¬ fp b) → (∀ q, Local (J q)) → (∀ q, Local (Js q)) → J pre w fp →
  (∀ q x, pre <+: q → q ++ [x] <+: pre ++ extL A n d l dn → YieldsH Tryd.prog y J Js w (onF fp bo br) q x (zI x) (hI x)) →
    GivesR Tryd.prog 86 [.pointer (some ⟨bo, 0, none⟩), y] w (OnRes w fp bo br A n l dn J Js pre (extL A n d l dn))
end Go.Proofs.YtocpkgckllbjlaaDoor

/-
  The maker's blocks, on entering and on leaving. Own work.
-/
namespace Go.Proofs.YtocpkgckllbjlaaDoor
open Go.AM
set_option maxRecDepth 100000

def ordB (A : Rl) (n : Nat) (lv : AV) (dn : BitVec 64) : Blk := .cells 96 [.vals 65 (rowV A ++ [.int .i64 (n : Int)]), .one lv, .one (.v (.int .u64 (un dn)))]

def onH (A : Rl) (n : Nat) (dn : BitVec 64) (k : Nat) : Option (Nat × List Value) → List (Nat × Blk)
  | none => [(0, ordB A n (.v (.slice none 0 0)) dn)]
  | some (m, vs) => [(0, ordB A n (.sl 1 1 0 k) dn), (1, .row 3 1 m vs)]

def onS (l : List Nat) : Option (Nat × List Value) → Prop
  | none => l = []
  | some (m, vs) => l.length ≤ m ∧ vs.take l.length = encN l

theorem ordB_at {M : AM.Loc} {w : World} {id : Nat} {A : Rl} {n : Nat} {lv : AV} {dn : BitVec 64} : BlkAt M w id (ordB A n lv dn) ↔ OrdC w (M id).1 A n (conc M lv) dn := by
  constructor
  · intro h
    refine ⟨?_⟩
    have := h.1
    simpa [ordB, concSegs, conc, ordV] using this
  · intro h
    have := h.at'
    exact ⟨by simpa [ordB, concSegs, conc, ordV] using this, by simp, trivial⟩

noncomputable abbrev onC (bo : Nat) (y : Value) (w : World) (fp : Foot) (br : Option Nat) (X : Res) (R : Value → World → Prop) : Ctx :=
  fnL Tryd.prog 86 2 (Tryd.f86).ntmps #[.pointer (some ⟨bo, 0, none⟩), y] w (onF fp bo br) X R

theorem on_enter {A : Rl} {n : Nat} {dn : BitVec 64} {l : List Nat} {y : Value} {bo : Nat} {br : Option Nat} {w : World} {fp : Foot} {X : Res} {R : Value → World → Prop} {c : Code} (hb : (Tryd.f86).body = some c)
    (hst : OnSt w bo br A n l dn) (hlt : ∀ b, onF fp bo br b → b < w.heap.size) (hfo : ¬ fp bo) (hfr : ∀ b, br = some b → ¬ fp b) (h0 : X w fp)
    (h : ∀ s, onS l s → Run (onC bo y w fp br X R) [.code c] ⟨[(0, .ptr 0 0), (1, .v y)], onH A n dn l.length s, 2⟩) :
    GivesR Tryd.prog 86 [.pointer (some ⟨bo, 0, none⟩), y] w R := by
  obtain ⟨⟨sv, hO, hS⟩, hne⟩ := hst
  have hfl : ∀ b, fp b → b < w.heap.size := fun b hb => hlt b (.inl hb)
  cases br with
  | none =>
    obtain ⟨rfl, rfl⟩ := hS
    let M : AM.Loc := fun _ => (bo, 0)
    have e : concL M [.ptr 0 0, .v y] = [.pointer (some ⟨bo, 0, none⟩), y] := by simp [concL, conc, M]
    rw [← e]
    have hf : footH M fp (onH A n dn 0 none) = onF fp bo none := by
      funext b; apply propext
      simp only [footH, onF, onH]
      constructor
      · rintro (h | ⟨id, B, hB, rfl⟩)
        · exact .inl h
        · exact .inr (.inl rfl)
      · rintro (h | rfl | h)
        · exact .inl h
        · exact .inr ⟨0, _, rfl, rfl⟩
        · cases h
    have hlk : ∀ id B, lk (onH A n dn 0 none) id = some B → id = 0 ∧ B = ordB A n (.v (.slice none 0 0)) dn := by
      intro id B hB
      simp only [onH, lk] at hB
      split at hB
      · rename_i he; cases hB; exact ⟨Nat.eq_of_beq_eq_true he, rfl⟩
      · cases hB
    refine givesL_of_run (h := onH A n dn 0 none) (nx := 2) (fp := fp) (X := X) Tryd.func86 hb (by show 2 ≤ 86; decide) h0 hfl ?_ ?_ ?_ ?_
    · intro id B hB
      obtain ⟨rfl, rfl⟩ := hlk id B hB
      exact ordB_at.2 hO
    · intro id id' B B' hB hB' _
      rw [(hlk id B hB).1, (hlk id' B' hB').1]
    · intro id B hB
      exact hfo
    · rw [hf, e]; exact h none rfl
  | some b =>
    obtain ⟨cap, m, vs, rfl, hB0, hm, hv⟩ := hS
    have hbo : b ≠ bo := fun e => hne (by rw [e])
    let M : AM.Loc := fun | 0 => (bo, 0) | _ => (b, cap)
    have e : concL M [.ptr 0 0, .v y] = [.pointer (some ⟨bo, 0, none⟩), y] := by simp [concL, conc, M]
    rw [← e]
    have hlk : ∀ id B, lk (onH A n dn l.length (some (m, vs))) id = some B → (id = 0 ∧ B = ordB A n (.sl 1 1 0 l.length) dn) ∨ (id = 1 ∧ B = .row 3 1 m vs) := by
      intro id B hB
      simp only [onH, lk] at hB
      split at hB
      · rename_i he; cases hB; exact .inl ⟨Nat.eq_of_beq_eq_true he, rfl⟩
      · split at hB
        · rename_i he; cases hB; exact .inr ⟨Nat.eq_of_beq_eq_true he, rfl⟩
        · cases hB
    have hf : footH M fp (onH A n dn l.length (some (m, vs))) = onF fp bo (some b) := by
      funext b'; apply propext
      simp only [footH, onF]
      constructor
      · rintro (h | ⟨id, B, hB, rfl⟩)
        · exact .inl h
        · rcases hlk id B hB with ⟨rfl, _⟩ | ⟨rfl, _⟩
          · exact .inr (.inl rfl)
          · exact .inr (.inr rfl)
      · rintro (h | rfl | h)
        · exact .inl h
        · exact .inr ⟨0, _, rfl, rfl⟩
        · cases h; exact .inr ⟨1, _, rfl, rfl⟩
    refine givesL_of_run (h := onH A n dn l.length (some (m, vs))) (nx := 2) (fp := fp) (X := X) Tryd.func86 hb (by show 2 ≤ 86; decide) h0 hfl ?_ ?_ ?_ ?_
    · intro id B hB
      rcases hlk id B hB with ⟨rfl, rfl⟩ | ⟨rfl, rfl⟩
      · refine ordB_at.2 ?_
        have : conc M (.sl 1 1 0 l.length) = .slice (some ⟨b, 0, none⟩) l.length cap := by simp [conc, M]
        rw [this]; exact hO
      · exact hB0
    · intro id id' B B' hB hB' he
      rcases hlk id B hB with ⟨rfl, _⟩ | ⟨rfl, _⟩ <;> rcases hlk id' B' hB' with ⟨rfl, _⟩ | ⟨rfl, _⟩ <;> first | rfl | exact absurd he.symm hbo | exact absurd he hbo
    · intro id B hB
      rcases hlk id B hB with ⟨rfl, _⟩ | ⟨rfl, _⟩
      · exact hfo
      · exact hfr b rfl
    · rw [hf, e]; exact h (some (m, vs)) ⟨hm, hv⟩

/-- What a state says of the maker. -/
def onAt (A : Rl) (n : Nat) (l : List Nat) (dn : BitVec 64) (h : List (Nat × Blk)) : Prop :=
  (lk h 0 = some (ordB A n (.v (.slice none 0 0)) dn) ∧ l = []) ∨
  ∃ id m vs, id ≠ 0 ∧ lk h 0 = some (ordB A n (.sl id 1 0 l.length) dn) ∧ lk h id = some (.row 3 1 m vs) ∧ l.length ≤ m ∧ vs.take l.length = encN l

theorem on_leave {A : Rl} {n : Nat} {dn : BitVec 64} {l : List Nat} {y : Value} {bo : Nat} {br : Option Nat} {w : World} {fp : Foot} {X : Res} {R : Value → World → Prop} {σ : St} {M : AM.Loc} {fp' : Foot} {a : Act} {w' : World}
    (hr : Rel (onC bo y w fp br X R) M fp' σ a w') (h0 : lk σ.t 0 = some (.ptr 0 0)) (hh : onAt A n l dn σ.h) :
    (M 0).1 = bo ∧ ∃ br', OnSt w' bo br' A n l dn ∧ Grown (onF fp bo br) w (onF fp' bo br') w' ∧ ¬ fp' bo ∧ ∀ b, br' = some b → ¬ fp' b := by
  have hbo : (M 0).1 = bo := hr.still (i := 0) (off := 0) (o := 0) (by show 0 < 2; decide) rfl h0
  refine ⟨hbo, ?_⟩
  have hgo : ∀ id B, lk σ.h id = some B → (M id).1 < w'.heap.size ∧ ((M id).1 < w.heap.size → onF fp bo br (M id).1) := fun id B hB => ⟨(hr.heap id B hB).lt, fun h => hr.own id B hB h⟩
  rcases hh with ⟨h1, rfl⟩ | ⟨id, m, vs, hid, h1, h2, h3, h4⟩
  · refine ⟨none, ⟨⟨.slice none 0 0, ?_, rfl, rfl⟩, by simp⟩, ⟨hr.agree, ?_⟩, ?_, fun b h => by cases h⟩
    · rw [← hbo]; exact ordB_at.1 (hr.heap 0 _ h1)
    · rintro b (hb | rfl | hb)
      · exact hr.fpok b hb
      · have := hgo 0 _ h1; rwa [hbo] at this
      · cases hb
    · rw [← hbo]; exact hr.apart 0 _ h1
  · have hne : (M id).1 ≠ bo := fun e => hid (hr.inj _ _ _ _ h2 h1 (e.trans hbo.symm))
    refine ⟨some (M id).1, ⟨⟨conc M (.sl id 1 0 l.length), ?_, (M id).2, m, vs, by simp [conc], hr.heap id _ h2, h3, h4⟩, fun e => hne (Option.some.inj e)⟩, ⟨hr.agree, ?_⟩, ?_, ?_⟩
    · rw [← hbo]; exact ordB_at.1 (hr.heap 0 _ h1)
    · rintro b (hb | rfl | hb)
      · exact hr.fpok b hb
      · have := hgo 0 _ h1; rwa [hbo] at this
      · cases hb; exact hgo id _ h2
    · rw [← hbo]; exact hr.apart 0 _ h1
    · intro b hb
      cases hb
      exact hr.apart id _ h2

theorem on_back {A : Rl} {n : Nat} {dn : BitVec 64} {l : List Nat} {y : Value} {bo : Nat} {br br1 br' : Option Nat} {w : World} {fp : Foot} {X X' : Res} {R : Value → World → Prop} {σ : St} {M : AM.Loc} {fp1 fp' : Foot} {a : Act} {w1 w' : World}
    (hr : Rel (onC bo y w fp br X R) M fp1 σ a w1) (hbo : (M 0).1 = bo) (hg0 : Grown (onF fp bo br) w (onF fp1 bo br1) w1) (hst : OnSt w' bo br' A n l dn) (hg : Grown (onF fp1 bo br1) w1 (onF fp' bo br') w')
    (hfo : ¬ fp' bo) (hfr : ∀ b, br' = some b → ¬ fp' b) (hl : l ≠ []) (hX : X' w' fp') (hb : tBelow σ.nx σ.t = true) (hn0 : 0 < σ.nx) :
    ∃ M' m vs, Rel (onC bo y w fp br X' R) M' fp' ⟨σ.t, [(0, ordB A n (.sl σ.nx 1 0 l.length) dn), (σ.nx, .row 3 1 m vs)], σ.nx + 1⟩ a w' ∧ l.length ≤ m ∧ vs.take l.length = encN l := by
  obtain ⟨⟨sv, hO, hS⟩, hne⟩ := hst
  cases br' with
  | none => exact absurd hS.2 hl
  | some b =>
    obtain ⟨cap, m, vs, rfl, hB0, hm, hv⟩ := hS
    have hbo' : b ≠ bo := fun e => hne (by rw [e])
    let M' : AM.Loc := fun i => if i = σ.nx then (b, cap) else M i
    have hlow : ∀ i, i < σ.nx → M' i = M i := fun i hi => by simp only [M', if_neg (Nat.ne_of_lt hi)]
    have hnx : M' σ.nx = (b, cap) := by simp only [M', if_true]
    have hM0 : (M' 0).1 = bo := by rw [hlow 0 hn0, hbo]
    have hlk : ∀ id B, lk [(0, ordB A n (.sl σ.nx 1 0 l.length) dn), (σ.nx, .row 3 1 m vs)] id = some B → (id = 0 ∧ B = ordB A n (.sl σ.nx 1 0 l.length) dn) ∨ (id = σ.nx ∧ B = .row 3 1 m vs) := by
      intro id B hB
      simp only [lk] at hB
      split at hB
      · rename_i he; cases hB; exact .inl ⟨Nat.eq_of_beq_eq_true he, rfl⟩
      · split at hB
        · rename_i he; cases hB; exact .inr ⟨Nat.eq_of_beq_eq_true he, rfl⟩
        · cases hB
    have hown : ∀ b', onF fp' bo (some b) b' → b' < w'.heap.size ∧ (b' < w.heap.size → onF fp bo br b') := (hg0.trans hg).2
    refine ⟨M', m, vs, ?_, hm, hv⟩
    refine { heap := ?_, inj := ?_, own := ?_, apart := ?_, agree := (hg0.trans hg).1, outer := hX, fpok := fun b' hb' => hown b' (.inl hb'), size := hr.size, frozen := hr.frozen, tmps := ?_, defers := hr.defers }
    · intro id B hB
      rcases hlk id B hB with ⟨rfl, rfl⟩ | ⟨rfl, rfl⟩
      · refine ordB_at.2 ?_
        have : conc M' (.sl σ.nx 1 0 l.length) = .slice (some ⟨b, 0, none⟩) l.length cap := by simp only [conc, hnx]; simp
        rw [this, hM0]; exact hO
      · have h1 : BlkAt (fun _ => M' σ.nx) w' 0 (.row 3 1 m vs) := by rw [hnx]; exact hB0
        exact h1
    · intro id id' B B' hB hB' he
      rcases hlk id B hB with ⟨rfl, _⟩ | ⟨rfl, _⟩ <;> rcases hlk id' B' hB' with ⟨rfl, _⟩ | ⟨rfl, _⟩
      · rfl
      · rw [hM0, hnx] at he; exact absurd he.symm hbo'
      · rw [hM0, hnx] at he; exact absurd he hbo'
      · rfl
    · intro id B hB hlt
      rcases hlk id B hB with ⟨rfl, _⟩ | ⟨rfl, _⟩
      · rw [hM0] at hlt ⊢; exact (hown bo (.inr (.inl rfl))).2 hlt
      · rw [hnx] at hlt ⊢; exact (hown b (.inr (.inr rfl))).2 hlt
    · intro id B hB
      rcases hlk id B hB with ⟨rfl, _⟩ | ⟨rfl, _⟩
      · rw [hM0]; exact hfo
      · rw [hnx]; exact hfr b rfl
    · intro i x hx
      rw [hr.tmps i x hx]
      congr 1
      exact (conc_congr hlow x (lk_below hb hx)).symm
end Go.Proofs.YtocpkgckllbjlaaDoor

/-
  The maker goes on through all that the order may become. Own work.
-/
namespace Go.Proofs.YtocpkgckllbjlaaDoor
open Go.AM
set_option maxRecDepth 100000

theorem orderOn_enters : Enters Tryd.prog 86 := enters_mk Tryd.func86 (by decide) rfl

theorem ordAt_n (A : Rl) (n : Int) : intAt (rowV A ++ [Value.int .i64 n]) 64 = n := by simp [intAt]

theorem extL_0 (A : Rl) (n : Nat) (l : List Nat) (dn : BitVec 64) : extL A n 0 l dn = [l] := rfl

/-- All numbers stand. -/
theorem on_zero (A : Rl) (n : Nat) (hn : n ≤ 64) : OnOK A n 0 := by
  intro l dn bo br w fp J Js y pre hl hst hlt hfo hfr hJ hJs h0 hy
  have hl' : l.length = n := by omega
  refine on_enter rfl hst hlt hfo hfr h0 fun s hs => ?_
  have hyi := hy pre l (List.prefix_refl _) (by rw [extL_0]; exact List.prefix_refl _)
  have hout : ∀ X M fp' σ a w' v, Rel (onC bo y w fp br X (OnRes w fp bo br A n l dn J Js pre (extL A n 0 l dn))) M fp' σ a w' → lk σ.t 0 = some (.ptr 0 0) → onAt A n l dn σ.h →
      (X = J (pre ++ [l]) ∧ v = .bool true ∨ X = Js (pre ++ [l]) ∧ v = .bool false) → OnRes w fp bo br A n l dn J Js pre (extL A n 0 l dn) v w' := by
    intro X M fp' σ a w' v hr h0 hh hv
    obtain ⟨_, br', h1, h2, h3, h4⟩ := on_leave hr h0 hh
    refine ⟨fp', br', h1, h2, h3, h4, ?_⟩
    rcases hv with ⟨rfl, rfl⟩ | ⟨rfl, rfl⟩
    · exact .inl ⟨rfl, hr.outer⟩
    · exact .inr ⟨rfl, _, List.prefix_refl _, hr.outer⟩
  cases s with
  | none =>
    obtain rfl : l = [] := hs
    refine RunF_sound tab_ok (hJ pre) 100 [] _ _ rfl ?_ ?_
    · simp
    refine Run.drawA (hJ pre) rfl [] [(0, ordB A n (.v (.slice none 0 0)) dn)] rfl rfl ⟨rfl, trivial⟩ ?_
    refine RunOF_sound tab_ok (hJ pre) rfl rfl 200 [] _ _ rfl ?_ ?_
    · simp [ordAt_n]
    refine RunO.done ?_
    refine RunF_sound tab_ok (hJ pre) 200 [true] _ _ rfl ?_ ?_
    · simp at hl'
      simp [ordAt_n, Value.cells, repL, fillL, hl', maxLen]
      omega
    refine Run.yieldH (J := J) (Js := Js) (hrem := [(0, ordB A n (.v (.slice none 0 0)) dn)]) [(50, 2)] rfl hyi rfl rfl rfl rfl rfl ?_ ?_ rfl ⟨rfl, trivial⟩ rfl rfl rfl ?_ ?_
    · rfl
    · exact ⟨rfl, trivial⟩
    · refine RunF_sound tab_ok (hJ _) 100 [] _ _ rfl ?_ ?_
      · simp
      refine Run.retF tab_ok Tryd.func86 rfl trivial fun M fp' a w' hr => ?_
      exact hout _ M fp' _ a w' _ hr rfl (.inl ⟨rfl, rfl⟩) (.inl ⟨rfl, rfl⟩)
    · refine RunF_sound tab_ok (hJs _) 100 [] _ _ rfl ?_ ?_
      · simp
      refine Run.retF tab_ok Tryd.func86 rfl trivial fun M fp' a w' hr => ?_
      exact hout _ M fp' _ a w' _ hr rfl (.inl ⟨rfl, rfl⟩) (.inr ⟨rfl, rfl⟩)
  | some x =>
    obtain ⟨m, vs⟩ := x
    obtain ⟨hm, hv⟩ := hs
    refine RunF_sound tab_ok (hJ pre) 100 [] _ _ rfl ?_ ?_
    · simp
    refine Run.drawA (hJ pre) rfl [] [(0, ordB A n (.sl 1 1 0 l.length) dn)] rfl rfl ⟨rfl, trivial⟩ ?_
    refine RunOF_sound tab_ok (hJ pre) rfl rfl 200 [] _ _ rfl ?_ ?_
    · simp [ordAt_n]
    refine RunO.done ?_
    refine RunF_sound tab_ok (hJ pre) 200 [true] _ _ rfl ?_ ?_
    · simp [ordAt_n, Value.cells, repL, fillL, hl', maxLen]
      rw [← hl', hv]
      exact ⟨by omega, encN_one l⟩
    refine Run.yieldH (J := J) (Js := Js) (hrem := [(0, ordB A n (.sl 1 1 0 l.length) dn), (1, .row 3 1 m vs)]) [(50, 3)] rfl hyi rfl rfl rfl rfl rfl ?_ ?_ rfl ⟨rfl, rfl, trivial⟩ rfl rfl rfl ?_ ?_
    · show AV.sl 3 1 0 (0 + l.length) = .sl 3 1 0 l.length
      rw [Nat.zero_add]
    · refine ⟨congrArg some ?_, trivial⟩
      show Blk.row 3 1 (0 + l.length) _ = .row 3 1 l.length (encN l)
      rw [Nat.zero_add]
      congr 1
      simpa using hv
    · refine RunF_sound tab_ok (hJ _) 100 [] _ _ rfl ?_ ?_
      · simp
      refine Run.retF tab_ok Tryd.func86 rfl trivial fun M fp' a w' hr => ?_
      exact hout _ M fp' _ a w' _ hr rfl (.inr ⟨1, m, vs, by decide, rfl, rfl, hm, hv⟩) (.inl ⟨rfl, rfl⟩)
    · refine RunF_sound tab_ok (hJs _) 100 [] _ _ rfl ?_ ?_
      · simp
      refine Run.retF tab_ok Tryd.func86 rfl trivial fun M fp' a w' hr => ?_
      exact hout _ M fp' _ a w' _ hr rfl (.inr ⟨1, m, vs, by decide, rfl, rfl, hm, hv⟩) (.inr ⟨rfl, rfl⟩)
end Go.Proofs.YtocpkgckllbjlaaDoor
