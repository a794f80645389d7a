/-
  What the reference's in, Cross and On do. Own work.
-/
import Derived.Test.YtocpkgckllbjlaaDoorR2
namespace Go.AM

/-- A reference's Cross under way. -/
def crossQ (n : Int) (x y : BitVec 64) (k b : Nat) : Rl := Rl.by_ n fun i => if x.getLsbD i then (if i < k then y &&& mask n else if i = k then y &&& mask b else 0#64) else 0#64

theorem mask_0 : mask 0 = 0#64 := by decide
theorem crossQ_0 (n : Int) (x y : BitVec 64) : crossQ n x y 0 0 = Rl.void n := by
  rw [crossQ, Rl.void_by]
  exact Rl.by_congr fun i _ => by simp [mask_0]
theorem crossQ_row (n : Int) (x y : BitVec 64) (k : Nat) (h : (k : Int) = n) (k0 : Nat) : crossQ n x y k0 k = crossQ n x y (k0 + 1) 0 := by
  rw [crossQ, crossQ]
  refine Rl.by_congr fun i _ => ?_
  by_cases c : x.getLsbD i = true
  · rw [if_pos c, if_pos c]
    by_cases e : i = k0
    · subst e; simp [h]
    · have : (i < k0 + 1) ↔ i < k0 := by omega
      simp only [this, e, if_false]
      split
      · rfl
      · split
        · simp [mask_0]
        · rfl
  · rw [if_neg c, if_neg c]
theorem crossQ_end {n : Int} {x y : BitVec 64} {k : Nat} (h0 : ¬ n < 0) (h1 : ¬ n > 64) (h : (k : Int) = n) : crossQ n x y k 0 = crossL n x y := by
  rw [crossL, if_neg (by omega), crossQ]
  refine Rl.by_congr fun i _ => ?_
  by_cases c : x.getLsbD i = true
  · rw [if_pos c]
    by_cases e : i < k
    · rw [if_pos e, if_pos ⟨by omega, c⟩]
    · have h2 : ¬ ((i : Int) < n ∧ x.getLsbD i = true) := fun h' => by omega
      rw [if_neg e, if_neg h2]
      split
      · simp [mask_0]
      · rfl
  · rw [if_neg c, if_neg (by simp [c])]

theorem mask_or (y : BitVec 64) (b : Nat) (hb : b < 64) (h : y.getLsbD b = true) : (y &&& mask b) ||| 1#64 <<< b = y &&& mask ((b + 1 : Nat) : Int) := by
  apply BitVec.eq_of_getLsbD_eq
  intro j hj
  simp only [BitVec.getLsbD_and, BitVec.getLsbD_or, BitVec.getLsbD_shiftLeft, BitVec.getLsbD_one, mask_get _ _ (Int.natCast_nonneg _)]
  by_cases e : j = b
  · subst e; simp [h, hj]; omega
  · by_cases hlt : j < b
    · have h1 : (j : Int) < (b : Int) + 1 := by omega
      simp [hlt, h1]
    · have h1 : ¬ ((j : Int) < ((b + 1 : Nat) : Int)) := by omega
      have h2 : ¬ (j - b = 0) := by omega
      have h3 : ¬ ((j : Int) < (b : Int)) := by omega
      simp only [h1, h2, h3, and_false, decide_false, Bool.and_false, Bool.or_false]
theorem mask_no (y : BitVec 64) (b : Nat) (h : ¬ y.getLsbD b = true) : y &&& mask b = y &&& mask ((b + 1 : Nat) : Int) := by
  apply BitVec.eq_of_getLsbD_eq
  intro j hj
  simp only [BitVec.getLsbD_and, mask_get _ _ (Int.natCast_nonneg _)]
  by_cases e : j = b
  · subst e; simp [h]
  · congr 1
    apply decide_eq_decide.2
    omega

theorem crossQ_yes {n : Int} {x y : BitVec 64} {k b : Nat} (hk : k < 64) (hb : b < 64) (hx : x.getLsbD k = true) (hy : y.getLsbD b = true) :
    (crossQ n x y k b).setRow k ((crossQ n x y k b).row k ||| 1#64 <<< b) = crossQ n x y k (b + 1) := by
  have e : (crossQ n x y k b).row k = y &&& mask b := by rw [crossQ, Rl.row_by, if_pos hk, if_pos hx]; simp
  rw [e, mask_or y b hb hy, crossQ, Rl.set_by, crossQ]
  refine Rl.by_congr fun i _ => ?_
  by_cases e : k = i
  · subst e; simp [hx]
  · have e' : ¬ i = k := fun h => e h.symm
    simp only [e, e', if_false]
theorem crossQ_no {n : Int} {x y : BitVec 64} {k b : Nat} (h : ¬ (x.getLsbD k = true ∧ y.getLsbD b = true)) : crossQ n x y k b = crossQ n x y k (b + 1) := by
  rw [crossQ, crossQ]
  refine Rl.by_congr fun i _ => ?_
  by_cases c : x.getLsbD i = true
  · rw [if_pos c, if_pos c]
    by_cases e : i = k
    · subst e
      simp only [Nat.lt_irrefl, if_false, if_true]
      exact mask_no y b (fun hy => h ⟨c, hy⟩)
    · simp only [e, if_false]
  · rw [if_neg c, if_neg c]

end Go.AM

namespace Go.Proofs.YtocpkgckllbjlaaDoor
open Go.AM

/-- A reference's On under way. -/
def onQ (n : Int) (s : BitVec 64) (k : Nat) : Rl := Rl.by_ n fun i => if i < k ∧ s.getLsbD i then 1#64 <<< i else 0#64
theorem onQ_0 (n : Int) (s : BitVec 64) : onQ n s 0 = Rl.void n := by
  rw [onQ, Rl.void_by]
  exact Rl.by_congr fun i _ => by simp
theorem onQ_end {n : Int} {s : BitVec 64} {k : Nat} (h0 : ¬ n < 0) (h1 : ¬ n > 64) (h : (k : Int) = n) : onQ n s k = onL n s := by
  rw [onL, if_neg (by omega), onQ]
  refine Rl.by_congr fun i _ => ?_
  have : (i < k ∧ s.getLsbD i = true) ↔ ((i : Int) < n ∧ s.getLsbD i = true) := by
    constructor <;> rintro ⟨h2, h3⟩ <;> exact ⟨by omega, h3⟩
  simp only [this]
theorem onQ_yes {n : Int} {s : BitVec 64} {k : Nat} (hk : k < 64) (hs : s.getLsbD k = true) : (onQ n s k).setRow k ((onQ n s k).row k ||| 1#64 <<< k) = onQ n s (k + 1) := by
  have e : (onQ n s k).row k = 0#64 := by rw [onQ, Rl.row_by, if_pos hk]; simp
  rw [e, BitVec.zero_or, onQ, Rl.set_by, onQ]
  refine Rl.by_congr fun i _ => ?_
  by_cases e : k = i
  · subst e; simp [hs]
  · have : (i < k + 1) ↔ i < k := by omega
    simp only [this, e, if_false]
theorem onQ_no {n : Int} {s : BitVec 64} {k : Nat} (hs : ¬ s.getLsbD k = true) : onQ n s k = onQ n s (k + 1) := by
  rw [onQ, onQ]
  refine Rl.by_congr fun i _ => ?_
  by_cases e : k = i
  · subst e; simp [hs]
  · have : (i < k + 1) ↔ i < k := by omega
    simp only [this]

set_option maxRecDepth 100000

theorem in_ok (x : BitVec 64) (k : Nat) (w : World) : Gives Tryd.prog 90 [.int .u64 (un x), .int .i64 (k : Int)] w (.bool (x.getLsbD k)) := by
  refine Gives.of_run Tryd.func90 rfl (by show 2 ≤ 10; decide) ?_
  refine RunF_sound tab_ok noX_local 100 [] _ _ rfl ?_ ?_
  · simp
  · refine Run.retP tab_ok Tryd.func90 rfl trivial (fun M => ?_)
    simp only [conc, shr_un, band1_un, un_beq1, Int.toNat_natCast]
    congr 1
    rw [Bool.eq_iff_iff, beq_iff_eq, bit_iff]
theorem in_enters : Enters Tryd.prog 90 := enters_mk Tryd.func90 (by decide) rfl

theorem onR_ok (n : Int) (x : BitVec 64) (w : World) : Gives Tryd.prog 83 [.int .i64 n, .int .u64 (un x)] w (encRel (onL n x)) := by
  refine Gives.of_run Tryd.func83 rfl (by show 2 ≤ 34; decide) ?_
  by_cases h1 : n < 0
  · refine RunF_sound tab_ok noX_local 100 [true, true] _ _ rfl ?_ ?_
    · simp [h1, fillL, Value.cells, segsVals, relV_one']
    · refine Run.retP tab_ok Tryd.func83 rfl ?_ (fun M => ?_)
      · simp [fillL, Value.cells]
      rw [onL, if_pos (.inl h1)]; rfl
  by_cases h2 : n > 64
  · refine RunF_sound tab_ok noX_local 100 [false, true] _ _ rfl ?_ ?_
    · simp [fillL, Value.cells, segsVals, relV_one']; omega
    · refine Run.retP tab_ok Tryd.func83 rfl ?_ (fun M => ?_)
      · simp [fillL, Value.cells]
      rw [onL, if_pos (.inr h2)]; rfl
  refine RunF_sound tab_ok noX_local 100 [false, false] _ _ rfl ?_ ?_
  · simp [fillL, Value.cells, segsVals, relV_one']; omega
  suffices H : ∀ (d k : Nat), (k : Int) + d = n → ∀ σ, inT σ.t [(0, .v (.int .i64 n)), (1, .v (.int .u64 (un x))), (4, .ptr 0 0), (5, .ptr 1 0), (6, .v (.int .i64 (k : Int)))] →
      inT σ.h [(0, .cells 25 [.vals 65 (relV (Rl.void 0))]), (1, .cells 25 [.vals 65 (relV (onQ n x k))])] → Run _ _ σ by
    refine H n.toNat 0 (by omega) _ ⟨rfl, rfl, rfl, rfl, rfl, trivial⟩ ⟨rfl, ?_, trivial⟩
    rw [onQ_0]
    rfl
  intro d
  induction d with
  | zero =>
    intro k hk σ ht hh
    refine Run.to ?_ ht hh (n' := 2)
    refine RunF_sound tab_ok noX_local 100 [false] _ _ rfl ?_ ?_
    · simp [relV_one', segsVals]; omega
    · refine Run.retP tab_ok Tryd.func83 rfl ?_ (fun M => ?_)
      · simp
      rw [← onQ_end h1 h2 (k := k) (by omega)]; rfl
  | succ d ih =>
    intro k hk σ ht hh
    refine Run.to ?_ ht hh (n' := 2)
    have hk' : k < 64 := by omega
    refine RunF_sound tab_ok noX_local 100 [true] _ _ rfl ?_ ?_
    · simp; omega
    refine Run.callFn noX_local rfl rfl rfl rfl rfl rfl rfl in_enters rfl (fun w' _ => in_ok x k w') ?_
    by_cases c : x.getLsbD k = true
    · refine RunF_sound tab_ok noX_local 100 [true] _ _ rfl ?_ ?_
      · simp [c]
      refine Run.drawA noX_local rfl [3] [] rfl rfl trivial ?_
      refine RunOF_sound tab_ok noX_local rfl rfl 100 [] _ _ rfl ?_ ?_
      · simp [relV_get _ _ hk', intAt_row _ _ hk', okCell, Value.oneCell', inT]; omega
      refine RunO.done ?_
      refine RunF_sound tab_ok noX_local 100 [] _ _ rfl ?_ ?_
      · simp
      refine ih (k + 1) (by omega) _ ⟨rfl, rfl, rfl, rfl, i64_eq (wrap_succ (by omega)), trivial⟩ ⟨rfl, congrArg (fun l => some (Blk.cells 25 [.vals 65 l])) ?_, trivial⟩
      simp [intAt_row _ _ hk', shl1_un, relV_set _ _ hk', onQ_yes hk' c]
    · refine RunF_sound tab_ok noX_local 100 [false] _ _ rfl ?_ ?_
      · simp [c]
      exact ih (k + 1) (by omega) _ ⟨rfl, rfl, rfl, rfl, i64_eq (wrap_succ (by omega)), trivial⟩ ⟨rfl, by rw [← onQ_no c]; rfl, trivial⟩

theorem onR_enters : Enters Tryd.prog 83 := enters_mk Tryd.func83 (by decide) rfl

theorem crossR_ok (n : Int) (x y : BitVec 64) (w : World) : Gives Tryd.prog 82 [.int .i64 n, .int .u64 (un x), .int .u64 (un y)] w (encRel (crossL n x y)) := by
  refine Gives.of_run Tryd.func82 rfl (by show 3 ≤ 47; decide) ?_
  by_cases h1 : n < 0
  · refine RunF_sound tab_ok noX_local 100 [true, true] _ _ rfl ?_ ?_
    · simp [h1, fillL, Value.cells, segsVals, relV_one']
    · refine Run.retP tab_ok Tryd.func82 rfl ?_ (fun M => ?_)
      · simp [fillL, Value.cells]
      rw [crossL, if_pos (.inl h1)]; rfl
  by_cases h2 : n > 64
  · refine RunF_sound tab_ok noX_local 100 [false, true] _ _ rfl ?_ ?_
    · simp [fillL, Value.cells, segsVals, relV_one']; omega
    · refine Run.retP tab_ok Tryd.func82 rfl ?_ (fun M => ?_)
      · simp [fillL, Value.cells]
      rw [crossL, if_pos (.inr h2)]; rfl
  refine RunF_sound tab_ok noX_local 100 [false, false] _ _ rfl ?_ ?_
  · simp [fillL, Value.cells, segsVals, relV_one']; omega
  suffices H : ∀ (d k : Nat), (k : Int) + d = n → ∀ σ, inT σ.t [(0, .v (.int .i64 n)), (1, .v (.int .u64 (un x))), (2, .v (.int .u64 (un y))), (6, .ptr 0 0), (7, .ptr 1 0), (8, .v (.int .i64 (k : Int)))] →
      inT σ.h [(0, .cells 25 [.vals 65 (relV (Rl.void 0))]), (1, .cells 25 [.vals 65 (relV (crossQ n x y k 0))])] → Run _ _ σ by
    refine H n.toNat 0 (by omega) _ ⟨rfl, rfl, rfl, rfl, rfl, rfl, trivial⟩ ⟨rfl, ?_, trivial⟩
    rw [crossQ_0]
    rfl
  intro d
  induction d with
  | zero =>
    intro k hk σ ht hh
    refine Run.to ?_ ht hh (n' := 2)
    refine RunF_sound tab_ok noX_local 100 [false] _ _ rfl ?_ ?_
    · simp [relV_one', segsVals]; omega
    · refine Run.retP tab_ok Tryd.func82 rfl ?_ (fun M => ?_)
      · simp
      rw [← crossQ_end h1 h2 (k := k) (by omega)]; rfl
  | succ d ih =>
    intro k hk σ ht hh
    refine Run.to ?_ ht hh (n' := 2)
    have hk' : k < 64 := by omega
    refine RunF_sound tab_ok noX_local 100 [true] _ _ rfl ?_ ?_
    · simp; omega
    suffices H : ∀ (e b : Nat), (b : Int) + e = n → ∀ σ, inT σ.t [(0, .v (.int .i64 n)), (1, .v (.int .u64 (un x))), (2, .v (.int .u64 (un y))), (6, .ptr 0 0), (7, .ptr 1 0), (8, .v (.int .i64 (k : Int))), (9, .v (.int .i64 (b : Int)))] →
        inT σ.h [(0, .cells 25 [.vals 65 (relV (Rl.void 0))]), (1, .cells 25 [.vals 65 (relV (crossQ n x y k b))])] → Run _ _ σ by
      exact H n.toNat 0 (by omega) _ ⟨rfl, rfl, rfl, rfl, rfl, rfl, rfl, trivial⟩ ⟨rfl, rfl, trivial⟩
    intro e
    induction e with
    | zero =>
      intro b hb σ ht hh
      refine Run.to ?_ ht hh (n' := 2)
      refine RunF_sound tab_ok noX_local 100 [false] _ _ rfl ?_ ?_
      · simp; omega
      exact ih (k + 1) (by omega) _ ⟨rfl, rfl, rfl, rfl, rfl, i64_eq (wrap_succ (by omega)), trivial⟩ ⟨rfl, by rw [← crossQ_row n x y b (by omega)]; rfl, trivial⟩
    | succ e ih2 =>
      intro b hb σ ht hh
      refine Run.to ?_ ht hh (n' := 2)
      have hb' : b < 64 := by omega
      refine RunF_sound tab_ok noX_local 100 [true] _ _ rfl ?_ ?_
      · simp; omega
      refine Run.callFn noX_local rfl rfl rfl rfl rfl rfl rfl in_enters rfl (fun w' _ => in_ok x k w') ?_
      by_cases c : x.getLsbD k = true
      · refine RunF_sound tab_ok noX_local 100 [true] _ _ rfl ?_ ?_
        · simp [c]
        refine Run.callFn noX_local rfl rfl rfl rfl rfl rfl rfl in_enters rfl (fun w' _ => in_ok y b w') ?_
        by_cases c2 : y.getLsbD b = true
        · refine RunF_sound tab_ok noX_local 100 [true] _ _ rfl ?_ ?_
          · simp [c2]
          refine Run.drawA noX_local rfl [3] [] rfl rfl trivial ?_
          refine RunOF_sound tab_ok noX_local rfl rfl 100 [] _ _ rfl ?_ ?_
          · simp [relV_get _ _ hk', intAt_row _ _ hk', okCell, Value.oneCell', inT]; omega
          refine RunO.done ?_
          refine RunF_sound tab_ok noX_local 100 [] _ _ rfl ?_ ?_
          · simp
          refine ih2 (b + 1) (by omega) _ ⟨rfl, rfl, rfl, rfl, rfl, rfl, i64_eq (wrap_succ (by omega)), trivial⟩ ⟨rfl, congrArg (fun l => some (Blk.cells 25 [.vals 65 l])) ?_, trivial⟩
          simp [intAt_row _ _ hk', shl1_un, relV_set _ _ hk', crossQ_yes hk' hb' c c2]
        · refine RunF_sound tab_ok noX_local 100 [false] _ _ rfl ?_ ?_
          · simp [c2]
          exact ih2 (b + 1) (by omega) _ ⟨rfl, rfl, rfl, rfl, rfl, rfl, i64_eq (wrap_succ (by omega)), trivial⟩ ⟨rfl, by rw [← crossQ_no (fun h => c2 h.2)]; rfl, trivial⟩
      · refine RunF_sound tab_ok noX_local 100 [false] _ _ rfl ?_ ?_
        · simp [c]
        exact ih2 (b + 1) (by omega) _ ⟨rfl, rfl, rfl, rfl, rfl, rfl, i64_eq (wrap_succ (by omega)), trivial⟩ ⟨rfl, by rw [← crossQ_no (fun h => c h.1)]; rfl, trivial⟩

theorem crossR_enters : Enters Tryd.prog 82 := enters_mk Tryd.func82 (by decide) rfl
end Go.Proofs.YtocpkgckllbjlaaDoor
