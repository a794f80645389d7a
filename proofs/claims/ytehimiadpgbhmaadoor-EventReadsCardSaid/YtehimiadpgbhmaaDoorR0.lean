/-
  Relations over numbers below 64, as rows of 64 bits: plain. Own work; no program in sight.
-/
import Derived.Test.YtehimiadpgbhmaaDoorAM9
namespace Go.AM

structure Rl where
  n : Int
  r : Vector (BitVec 64) 64
  deriving DecidableEq

namespace Rl
def row (r : Rl) (i : Nat) : BitVec 64 := if h : i < 64 then r.r[i] else 0#64
def setRow (r : Rl) (i : Nat) (x : BitVec 64) : Rl := if h : i < 64 then ⟨r.n, r.r.set i x⟩ else r
def void (n : Int) : Rl := ⟨n, Vector.replicate 64 0#64⟩

theorem row_ge (r : Rl) {i : Nat} (h : 64 ≤ i) : r.row i = 0#64 := by simp [row, Nat.not_lt.2 h]
theorem row_setRow (r : Rl) (i j : Nat) (x : BitVec 64) : (r.setRow i x).row j = if i = j ∧ i < 64 then x else r.row j := by
  unfold setRow row
  by_cases hi : i < 64
  · by_cases hj : j < 64
    · simp only [hi, hj, dite_true, and_true]
      rw [Vector.getElem_set]
    · simp only [hi, hj, dite_true, dite_false, and_true]
      rw [if_neg (by omega)]
  · simp [hi]
theorem n_setRow (r : Rl) (i : Nat) (x : BitVec 64) : (r.setRow i x).n = r.n := by unfold setRow; split <;> rfl
theorem row_void (n : Int) (i : Nat) : (void n).row i = 0#64 := by unfold row void; split <;> simp
theorem ext' {r s : Rl} (hn : r.n = s.n) (h : ∀ i, i < 64 → r.row i = s.row i) : r = s := by
  obtain ⟨n, r⟩ := r
  obtain ⟨m, s⟩ := s
  simp only at hn
  subst hn
  congr 1
  apply Vector.ext
  intro i hi
  have := h i hi
  simpa [row, hi] using this
theorem ext_iff' {r s : Rl} : r = s ↔ r.n = s.n ∧ ∀ i, i < 64 → r.row i = s.row i := ⟨by rintro rfl; exact ⟨rfl, fun _ _ => rfl⟩, fun h => ext' h.1 h.2⟩
theorem setRow_self (r : Rl) (i : Nat) : r.setRow i (r.row i) = r := by
  refine ext' (n_setRow _ _ _) fun j _ => ?_
  rw [row_setRow]; split
  · rename_i h; rw [h.1]
  · rfl
/-- Does a stand to b? -/
def has (r : Rl) (a b : Nat) : Bool := (r.row a).getLsbD b
theorem ext_has {r s : Rl} (hn : r.n = s.n) (h : ∀ a b, a < 64 → b < 64 → r.has a b = s.has a b) : r = s := by
  refine ext' hn fun i hi => ?_
  apply BitVec.eq_of_getLsbD_eq
  intro j hj
  exact h i j hi hj
end Rl

/-- The cells of a relation. -/
def rowV (r : Rl) : List Value := r.r.toList.map fun b => .int .u64 (un b)
def relV (r : Rl) : List Value := .int .i64 r.n :: rowV r
def encRel (r : Rl) : Value := .agg (relV r).toArray

@[simp] theorem rowV_length (r : Rl) : (rowV r).length = 64 := by simp [rowV]
@[simp] theorem relV_length (r : Rl) : (relV r).length = 65 := by simp [relV, rowV_length]
theorem rowV_get (r : Rl) (i : Nat) (h : i < 64) : (rowV r)[i]? = some (.int .u64 (un (r.row i))) := by simp [rowV, Rl.row, h]
theorem relV_get (r : Rl) (i : Nat) (h : i < 64) : (relV r)[1 + i]? = some (.int .u64 (un (r.row i))) := by
  rw [relV, Nat.add_comm, List.getElem?_cons_succ, rowV_get r i h]
@[simp] theorem relV_0 (r : Rl) : (relV r)[0]? = some (.int .i64 r.n) := rfl
@[simp] theorem intAt_0 (r : Rl) : intAt (relV r) 0 = r.n := rfl
theorem intAt_row (r : Rl) (i : Nat) (h : i < 64) : intAt (relV r) (1 + i) = un (r.row i) := by simp [intAt, relV_get r i h]
theorem intAt_rowV (r : Rl) (i : Nat) (h : i < 64) : intAt (rowV r) i = un (r.row i) := by simp [intAt, rowV_get r i h]
theorem relV_drop (r : Rl) : ((relV r).drop 1).take 64 = rowV r := by
  rw [relV, List.drop_one, List.tail_cons, List.take_of_length_le (by rw [rowV_length]; exact Nat.le_refl _)]
theorem relV_set0 (r : Rl) (n : Int) : (relV r).set 0 (.int .i64 n) = relV { r with n } := rfl
theorem relV_set (r : Rl) (i : Nat) (h : i < 64) (x : BitVec 64) : (relV r).set (1 + i) (.int .u64 (un x)) = relV (r.setRow i x) := by
  rw [relV, Nat.add_comm, List.set_cons_succ, relV, Rl.n_setRow]
  congr 1
  simp only [rowV, Rl.setRow, h, dite_true, Vector.toList_set, List.map_set]
theorem relV_one (r : Rl) : ∀ c ∈ relV r, c.oneCell' = true := by
  intro c hc
  simp only [relV, rowV, List.mem_cons, List.mem_map] at hc
  rcases hc with rfl | ⟨b, _, rfl⟩ <;> rfl
theorem relV_void (n : Int) : relV (Rl.void n) = .int .i64 n :: List.replicate 64 (.int .u64 0) := by
  simp [relV, rowV, Rl.void]
@[simp] theorem relV_e0 (r : Rl) (h : 0 < (relV r).length) : (relV r)[0] = .int .i64 r.n := rfl
@[simp] theorem relV_e (r : Rl) (i : Nat) (h : 1 + i < (relV r).length) : (relV r)[1 + i] = .int .u64 (un (r.row i)) := by
  have := relV_get r i (by simp at h; omega)
  rw [List.getElem?_eq_getElem h] at this
  exact Option.some.inj this
@[simp] theorem rowV_e (r : Rl) (i : Nat) (h : i < (rowV r).length) : (rowV r)[i] = .int .u64 (un (r.row i)) := by
  have := rowV_get r i (by simp at h; omega)
  rw [List.getElem?_eq_getElem h] at this
  exact Option.some.inj this
theorem relV_inj {r s : Rl} (h : relV r = relV s) : r = s := by
  refine Rl.ext' (by have := congrArg (fun l => intAt l 0) h; simpa [intAt_0] using this) fun i hi => ?_
  have := congrArg (fun l => intAt l (1 + i)) h
  simp only [intAt_row _ i hi] at this
  exact un_inj.1 this
theorem encRel_inj {r s : Rl} : encRel r = encRel s ↔ r = s := by
  constructor
  · intro h
    simp only [encRel, Value.agg.injEq] at h
    exact relV_inj (by have := congrArg Array.toList h; simpa using this)
  · rintro rfl; rfl

/-- The numbers below n. -/
def mask (n : Int) : BitVec 64 := if n ≥ 64 then BitVec.allOnes 64 else (1#64 <<< n.toNat) - 1#64

theorem mask_get (n : Int) (i : Nat) (h0 : 0 ≤ n) : (mask n).getLsbD i = decide (i < 64 ∧ (i : Int) < n) := by
  unfold mask
  split
  · rename_i h
    rw [BitVec.getLsbD_allOnes]
    apply decide_eq_decide.2; omega
  · rename_i h
    by_cases hi : i < 64
    · rw [BitVec.getLsbD, BitVec.toNat_sub, BitVec.toNat_shiftLeft]
      have h1 : (1#64).toNat = 1 := rfl
      rw [h1, Nat.shiftLeft_eq, Nat.one_mul]
      have hp : 2 ^ n.toNat < 2 ^ 64 := Nat.pow_lt_pow_right (by decide) (by omega)
      rw [Nat.mod_eq_of_lt hp]
      have hp1 : 0 < 2 ^ n.toNat := Nat.two_pow_pos _
      rw [show 2 ^ 64 - 1 + 2 ^ n.toNat = (2 ^ n.toNat - 1) + 2 ^ 64 by omega, Nat.add_mod_right, Nat.mod_eq_of_lt (by omega)]
      rw [Nat.testBit_two_pow_sub_one]
      apply decide_eq_decide.2; omega
    · rw [BitVec.getLsbD_of_ge _ _ (by omega)]
      symm; apply decide_eq_false; omega

end Go.AM
