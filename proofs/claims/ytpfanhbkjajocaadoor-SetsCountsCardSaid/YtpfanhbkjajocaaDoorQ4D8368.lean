/-
  Own work, merged: LBITS.
-/
import Derived.AtR
import Derived.Below
import Derived.ChangeKeysEq
import Derived.Laws.AppendOwn
import Derived.Laws.BytesString
import Derived.Laws.Cells
import Derived.Laws.CopyRow
import Derived.Laws.Entries
import Derived.Laws.Rows
import Derived.Laws.Small
import Derived.Laws.StructEq
import Derived.Lib.TrailingZeros
import Derived.Maps.AppendAt
import Derived.OpenShut
import Derived.Orders
import Derived.ProofKit
import Derived.RangeFuncRecord
import Derived.Test.YtpfanhbkjajocaaDoorQ4B399B
/-
  The bits of a word, one after another; the lowest one taken away. Plain arithmetic; of no program. Own work.
-/
namespace Go.AM

/-- The places of a word's one bits, rising. -/
def bitsL (x : BitVec 64) : List Nat := (List.range 64).filter fun i => x.getLsbD i

/-- The lowest one bit's place. -/
def tz (x : BitVec 64) : Nat := Go.Lib.ctz 64 x.toNat

theorem tz_parts (x : BitVec 64) (h : x ≠ 0#64) : ∃ m, x.toNat = 2 ^ tz x * (2 * m + 1) ∧ tz x < 64 := by
  have h0 : x.toNat ≠ 0 := fun e => h (BitVec.eq_of_toNat_eq (by simpa using e))
  have := Go.Lib.ctzFrom_spec 64 x.toNat (by omega) x.isLt
  unfold tz Go.Lib.ctz
  rw [if_neg h0]
  exact this

theorem testBit_parts (k m i : Nat) : (2 ^ k * (2 * m + 1)).testBit i = (decide (i = k) || (decide (k < i) && m.testBit (i - k - 1))) := by
  rw [Nat.mul_comm, Nat.testBit_mul_two_pow]
  by_cases hik : k ≤ i
  · by_cases he : i = k
    · subst he; simp
    · obtain ⟨j, rfl⟩ : ∃ j, i = k + (j + 1) := ⟨i - k - 1, by omega⟩
      have e3 : k + (j + 1) - k = j + 1 := by omega
      have e4 : j + 1 - 1 = j := by omega
      have d1 : (2 * m + 1) / 2 = m := by omega
      rw [e3, e4, Nat.testBit_succ, d1]
      have : ¬ k + (j + 1) = k := by omega
      have h2 : k < k + (j + 1) := by omega
      have h3 : k ≤ k + (j + 1) := by omega
      simp [h2, h3]
  · have : ¬ i = k := by omega
    have h2 : ¬ k < i := by omega
    simp [hik, this, h2]

theorem testBit_pred (k m i : Nat) : (2 ^ k * (2 * m + 1) - 1).testBit i = (decide (i < k) || (decide (k < i) && m.testBit (i - k - 1))) := by
  have hpos : 0 < 2 ^ k := Nat.two_pow_pos k
  have e : 2 ^ k * (2 * m + 1) - 1 = 2 ^ k * (2 * m) + (2 ^ k - 1) := by
    rw [Nat.mul_add, Nat.mul_one]; omega
  rw [e, Nat.testBit_two_pow_mul_add _ (by omega)]
  by_cases hik : i < k
  · have : ¬ k < i := by omega
    simp [hik, Nat.testBit_two_pow_sub_one]
  · by_cases he : i = k
    · subst he; simp
    · obtain ⟨j, rfl⟩ : ∃ j, i = k + (j + 1) := ⟨i - k - 1, by omega⟩
      have e3 : k + (j + 1) - k = j + 1 := by omega
      have e4 : j + 1 - 1 = j := by omega
      have d1 : (2 * m) / 2 = m := by omega
      have h2 : k < k + (j + 1) := by omega
      simp only [hik, if_false, decide_false, Bool.false_or, h2, decide_true, Bool.true_and]
      rw [e3, e4, Nat.testBit_succ, d1]

theorem get_low (x : BitVec 64) (h : x ≠ 0#64) (i : Nat) : x.getLsbD i = true → tz x ≤ i := by
  obtain ⟨m, hm, _⟩ := tz_parts x h
  intro hi
  rw [BitVec.getLsbD, hm, testBit_parts] at hi
  simp at hi
  omega

theorem get_tz (x : BitVec 64) (h : x ≠ 0#64) : x.getLsbD (tz x) = true := by
  obtain ⟨m, hm, _⟩ := tz_parts x h
  rw [BitVec.getLsbD, hm, testBit_parts]
  simp

theorem tz_lt (x : BitVec 64) (h : x ≠ 0#64) : tz x < 64 := (tz_parts x h).elim fun _ h => h.2

/-- The lowest one bit taken away. -/
def dropLow (x : BitVec 64) : BitVec 64 := x &&& (x - 1#64)

theorem get_dropLow (x : BitVec 64) (h : x ≠ 0#64) (i : Nat) : (dropLow x).getLsbD i = (x.getLsbD i && !decide (i = tz x)) := by
  obtain ⟨m, hm, hk⟩ := tz_parts x h
  have h0 : x.toNat ≠ 0 := fun e => h (BitVec.eq_of_toNat_eq (by simpa using e))
  have e1 : (x - 1#64).toNat = x.toNat - 1 := by
    rw [BitVec.toNat_sub]
    have := x.isLt
    have h1 : (1#64).toNat = 1 := rfl
    rw [h1]; omega
  unfold dropLow
  rw [BitVec.getLsbD_and, BitVec.getLsbD, BitVec.getLsbD, e1, hm, testBit_parts, testBit_pred]
  by_cases h1 : i = tz x
  · subst h1; simp
  · by_cases h2 : tz x < i
    · cases m.testBit (i - tz x - 1) <;> simp [h1, h2]
    · simp [h1, h2]

theorem bitsL_zero : bitsL 0#64 = [] := by
  unfold bitsL
  rw [List.filter_eq_nil_iff]
  intro i _; simp

theorem range_split (n : Nat) (p q : Nat → Bool) (k : Nat) (hk : k < n) (hlow : ∀ i, i < k → p i = false) (hp : p k = true) (hq : ∀ i, q i = (p i && !decide (i = k))) :
    (List.range n).filter p = k :: (List.range n).filter q := by
  have e : List.range n = List.range k ++ (k :: (List.range n).drop (k + 1)) := by
    have := List.take_append_drop k (List.range n)
    rw [List.take_range, Nat.min_eq_left (by omega), List.drop_eq_getElem_cons (by simpa using hk)] at this
    simpa using this.symm
  have hd : ∀ i ∈ (List.range n).drop (k + 1), k < i := by
    intro i hi
    rw [List.mem_iff_getElem] at hi
    obtain ⟨j, hj, rfl⟩ := hi
    simp; omega
  have f1 : (List.range k).filter p = [] := by
    rw [List.filter_eq_nil_iff]
    intro i hi; rw [hlow i (List.mem_range.1 hi)]; simp
  have f2 : (List.range k).filter q = [] := by
    rw [List.filter_eq_nil_iff]
    intro i hi; rw [hq, hlow i (List.mem_range.1 hi)]; simp
  have f3 : ((List.range n).drop (k + 1)).filter q = ((List.range n).drop (k + 1)).filter p := by
    refine List.filter_congr fun i hi => ?_
    have := hd i hi
    rw [hq]
    have : ¬ i = k := by omega
    simp [this]
  rw [e, List.filter_append, List.filter_append, f1, f2, List.nil_append, List.nil_append, List.filter_cons, List.filter_cons, if_pos hp]
  have : q k = false := by rw [hq]; simp
  rw [this, if_neg (by simp), f3]

theorem bitsL_cons (x : BitVec 64) (h : x ≠ 0#64) : bitsL x = tz x :: bitsL (dropLow x) := by
  refine range_split 64 _ _ _ (tz_lt x h) ?_ (get_tz x h) (get_dropLow x h)
  intro i hi
  cases hb : x.getLsbD i with
  | false => rfl
  | true => have := get_low x h i hb; omega

theorem bitsL_mem (x : BitVec 64) (i : Nat) : i ∈ bitsL x ↔ x.getLsbD i = true := by
  unfold bitsL
  rw [List.mem_filter, List.mem_range]
  constructor
  · exact fun h => h.2
  · intro h
    refine ⟨?_, h⟩
    rcases Nat.lt_or_ge i 64 with h1 | h1
    · exact h1
    · rw [BitVec.getLsbD_of_ge _ _ h1] at h; cases h

theorem bitsL_len_le (x : BitVec 64) : (bitsL x).length ≤ 64 := by
  have := List.length_filter_le (fun i => x.getLsbD i) (List.range 64)
  simpa [bitsL] using this

theorem pop_filter : ∀ (n x k : Nat), pop n x = ((List.range' k n).filter fun i => x.testBit (i - k)).length
  | 0, _, _ => rfl
  | n + 1, x, k => by
    rw [List.range'_succ, List.filter_cons]
    have h0 : x.testBit (k - k) = decide (x % 2 = 1) := by rw [Nat.sub_self, Nat.testBit_zero]
    have ih := pop_filter n (x / 2) (k + 1)
    have e : (List.range' (k + 1) n).filter (fun i => x.testBit (i - k)) = (List.range' (k + 1) n).filter (fun i => (x / 2).testBit (i - (k + 1))) := by
      refine List.filter_congr fun i hi => ?_
      have := List.mem_range'_1.1 hi
      rw [show i - k = (i - (k + 1)) + 1 by omega, Nat.testBit_succ]
    rw [e, h0]
    simp only [pop]
    by_cases h : x % 2 = 1
    · simp [h, ih]; omega
    · have : x % 2 = 0 := by omega
      simp [this, ih]

theorem pop_bits (x : BitVec 64) : pop 64 x.toNat = (bitsL x).length := by
  rw [pop_filter 64 _ 0]
  unfold bitsL
  rw [List.range_eq_range']
  rfl

end Go.AM
