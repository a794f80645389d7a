/-
  Sets of numbers below 64 in one word: plain laws. Own work; no program in sight.
-/
import Derived.Test.YtpfanhbkjajocaaDoorLBITS
import Derived.Test.YtpfanhbkjajocaaDoorAM9
namespace Go.AM

theorem bit_iff' (x : BitVec 64) (k : Nat) : (x >>> k &&& 1#64) = 1#64 ↔ x.getLsbD k = true := by
  constructor
  · intro h
    have := congrArg (fun y : BitVec 64 => y.getLsbD 0) h
    simpa [BitVec.getLsbD_and, BitVec.getLsbD_ushiftRight] using this
  · intro h
    apply BitVec.eq_of_getLsbD_eq
    intro j hj
    rw [BitVec.getLsbD_and, BitVec.getLsbD_ushiftRight, BitVec.getLsbD_one]
    by_cases h0 : j = 0
    · subst h0; simpa using h
    · simp [h0]

theorem bit_eq (x : BitVec 64) (b : Int) : (band .u64 (shrI .u64 (un x) b) 1 == 1) = x.getLsbD b.toNat := by
  rw [shr_un, band1_un, Bool.eq_iff_iff, beq_iff_eq, un_eq1, bit_iff']

def inB (i : Int) : Bool := decide (0 ≤ i ∧ i < 64)
def hasB (x : BitVec 64) (i : Int) : Bool := inB i && x.getLsbD i.toNat
def withL (x : BitVec 64) (i : Int) : BitVec 64 := if 0 ≤ i ∧ i < 64 then x ||| 1#64 <<< i.toNat else x
def withoutL (x : BitVec 64) (i : Int) : BitVec 64 := if 0 ≤ i ∧ i < 64 then x &&& ~~~(1#64 <<< i.toNat) else x

theorem getLsbD_one_shl (k j : Nat) (hk : k < 64) : (1#64 <<< k).getLsbD j = decide (j = k) := by
  rw [BitVec.getLsbD_shiftLeft, BitVec.getLsbD_one]
  by_cases h : j = k
  · subst h; simp [hk]
  · by_cases h1 : j < k
    · simp [h1, h]
    · have : ¬ j - k = 0 := by omega
      simp [this, h]

theorem sub_bit (x : BitVec 64) (k : Nat) (hk : k < 64) (h : x.getLsbD k = true) : x - 1#64 <<< k = x &&& ~~~(1#64 <<< k) := by
  have h1 : (x &&& ~~~(1#64 <<< k)) &&& 1#64 <<< k = 0#64 := by
    apply BitVec.eq_of_getLsbD_eq
    intro j hj
    simp [BitVec.getLsbD_and, BitVec.getLsbD_not, getLsbD_one_shl k j hk]
  have h2 : x = (x &&& ~~~(1#64 <<< k)) + 1#64 <<< k := by
    rw [BitVec.add_eq_or_of_and_eq_zero _ _ h1]
    apply BitVec.eq_of_getLsbD_eq
    intro j hj
    rw [BitVec.getLsbD_or, BitVec.getLsbD_and, BitVec.getLsbD_not, getLsbD_one_shl k j hk]
    by_cases hjk : j = k
    · subst hjk; simp [h]
    · simp [hjk, hj]
  conv => lhs; rw [h2]
  exact BitVec.add_sub_cancel _ _

theorem without_sub (x : BitVec 64) (i : Int) : withoutL x i = if hasB x i then x - 1#64 <<< i.toNat else x := by
  unfold withoutL hasB inB
  by_cases h : 0 ≤ i ∧ i < 64
  · rw [if_pos h]
    by_cases hb : x.getLsbD i.toNat = true
    · rw [if_pos (by simp [h, hb]), sub_bit x _ (by omega) hb]
    · have hb0 : x.getLsbD i.toNat = false := by cases hc : x.getLsbD i.toNat with | false => rfl | true => exact absurd hc hb
      rw [if_neg (by rw [hb0]; simp)]
      apply BitVec.eq_of_getLsbD_eq
      intro j hj
      rw [BitVec.getLsbD_and, BitVec.getLsbD_not, getLsbD_one_shl _ j (by omega)]
      by_cases hjk : j = i.toNat
      · have hb' : x.getLsbD i.toNat = false := by cases hc : x.getLsbD i.toNat with | false => rfl | true => exact absurd hc hb
        rw [hjk, hb']; rfl
      · simp [hjk, hj]
  · rw [if_neg h, if_neg (by simp [h])]

/-- The numbers below n. -/
def lowL (n : Int) : BitVec 64 := if n < 1 then 0#64 else if n ≥ 64 then BitVec.allOnes 64 else (1#64 <<< n.toNat) - 1#64

theorem below_get (n : Int) (i : Nat) : (lowL n).getLsbD i = decide (i < 64 ∧ (i : Int) < n) := by
  unfold lowL
  split
  · rename_i h
    rw [BitVec.getLsbD_zero]; symm; apply decide_eq_false; omega
  · split
    · rename_i h
      rw [BitVec.getLsbD_allOnes]
      apply decide_eq_decide.2; omega
    · rename_i h1 h
      by_cases hi : i < 64
      · rw [BitVec.getLsbD, BitVec.toNat_sub, BitVec.toNat_shiftLeft]
        have h1 : (1#64).toNat = 1 := rfl
        rw [h1, Nat.shiftLeft_eq, Nat.one_mul]
        have hp : 2 ^ n.toNat < 2 ^ 64 := Nat.pow_lt_pow_right (by decide) (by omega)
        rw [Nat.mod_eq_of_lt hp]
        have hp1 : 0 < 2 ^ n.toNat := Nat.two_pow_pos _
        rw [show 2 ^ 64 - 1 + 2 ^ n.toNat = (2 ^ n.toNat - 1) + 2 ^ 64 by omega, Nat.add_mod_right, Nat.mod_eq_of_lt (by omega)]
        rw [Nat.testBit_two_pow_sub_one]
        apply decide_eq_decide.2; omega
      · rw [BitVec.getLsbD_of_ge _ _ (by omega)]
        symm; apply decide_eq_false; omega

theorem below_step (n : Int) (k : Nat) (hk : k < 64) (h : (k : Int) < n) : withL (lowL k) k = lowL ((k + 1 : Nat) : Int) := by
  unfold withL
  rw [if_pos (by omega)]
  apply BitVec.eq_of_getLsbD_eq
  intro j hj
  rw [BitVec.getLsbD_or, below_get, below_get, Int.toNat_natCast, getLsbD_one_shl k j hk, Bool.eq_iff_iff]
  simp only [Bool.or_eq_true, decide_eq_true_eq]
  omega

theorem below_end (n : Int) (k : Nat) (hk : k ≤ 64) (hkn : k = 0 ∨ (k : Int) ≤ n) (h : ¬ ((k : Int) < 64 ∧ (k : Int) < n)) : lowL k = lowL n := by
  apply BitVec.eq_of_getLsbD_eq
  intro j hj
  rw [below_get, below_get]
  apply decide_eq_decide.2
  omega

/-- The numbers of a set below another. -/
theorem bits_below (x : BitVec 64) (i : Int) : bitsL (x &&& lowL i) = (bitsL x).filter fun k : Nat => decide ((k : Int) < i) := by
  unfold bitsL
  rw [List.filter_filter]
  refine List.filter_congr fun k hk => ?_
  have := List.mem_range.1 hk
  rw [BitVec.getLsbD_and, below_get]
  simp only [this, true_and]
  rw [Bool.and_comm]

/-- The least number of a set from k on. -/
def nextFrom (x : BitVec 64) : Nat → Nat → Int
  | _, 0 => -1
  | k, d + 1 => if x.getLsbD k then (k : Int) else nextFrom x (k + 1) d

theorem nextFrom_low (x y : BitVec 64) (hy : y ≠ 0#64) : ∀ d k, k + d = 64 → (∀ j, y.getLsbD j = (x.getLsbD j && decide (k ≤ j))) → nextFrom x k d = (tz y : Int)
  | 0, k, hk, h => by
    have := get_tz y hy
    rw [h] at this
    have ht := tz_lt y hy
    simp at this
    omega
  | d + 1, k, hk, h => by
    rw [nextFrom]
    split
    · rename_i hb
      have h1 : y.getLsbD k = true := by rw [h, hb]; simp
      have h2 := get_low y hy k h1
      have h3 := get_tz y hy
      rw [h] at h3
      simp at h3
      congr 1; omega
    · rename_i hb
      refine nextFrom_low x y hy d (k + 1) (by omega) fun j => ?_
      rw [h]
      by_cases hjk : j = k
      · subst hjk
        have : x.getLsbD j = false := by simpa using hb
        rw [this]; simp
      · congr 1
        apply decide_eq_decide.2; omega

theorem nextFrom_none (x y : BitVec 64) (hy : y = 0#64) : ∀ d k, k + d = 64 → (∀ j, y.getLsbD j = (x.getLsbD j && decide (k ≤ j))) → nextFrom x k d = -1
  | 0, _, _, _ => rfl
  | d + 1, k, hk, h => by
    rw [nextFrom]
    have h0 := h k
    rw [hy, BitVec.getLsbD_zero] at h0
    rw [if_neg (by intro hb; rw [hb] at h0; simp at h0)]
    refine nextFrom_none x y hy d (k + 1) (by omega) fun j => ?_
    rw [h]
    by_cases hjk : j = k
    · subst hjk
      have : x.getLsbD j = false := by simpa using h0.symm
      rw [this]; simp
    · congr 1
      apply decide_eq_decide.2; omega

theorem nextFrom_ge (x : BitVec 64) (k : Nat) (h : 64 ≤ k) (d : Nat) : nextFrom x k d = -1 := by
  induction d generalizing k with
  | zero => rfl
  | succ d ih => rw [nextFrom, BitVec.getLsbD_of_ge _ _ h, if_neg (by simp), ih (k + 1) (by omega)]

/-- What Next answers. -/
def nextL (x : BitVec 64) (i : Int) : Int := if x &&& ~~~(lowL i) = 0#64 then -1 else (tz (x &&& ~~~(lowL i)) : Int)

theorem next_eq (x : BitVec 64) (i : Int) : nextL x i = nextFrom x (if i > 0 then i else 0).toNat (64 - (if i > 0 then i else 0).toNat) := by
  obtain ⟨k, hk⟩ : ∃ k : Nat, (if i > 0 then i else 0).toNat = k := ⟨_, rfl⟩
  rw [hk]
  have hg : ∀ j, (x &&& ~~~(lowL i)).getLsbD j = (x.getLsbD j && decide (k ≤ j)) := by
    intro j
    rw [BitVec.getLsbD_and, BitVec.getLsbD_not, below_get]
    by_cases hj : j < 64
    · congr 1
      rw [Bool.eq_iff_iff]
      simp only [hj, true_and, decide_true, Bool.true_and, Bool.not_eq_true', decide_eq_false_iff_not, decide_eq_true_eq]
      split at hk <;> omega
    · rw [BitVec.getLsbD_of_ge x j (by omega)]; simp
  unfold nextL
  by_cases h64 : 64 ≤ k
  · rw [nextFrom_ge x k h64]
    rw [if_pos]
    apply BitVec.eq_of_getLsbD_eq
    intro j hj
    rw [hg, BitVec.getLsbD_zero]
    have : ¬ k ≤ j := by omega
    simp [this]
  · split
    · rename_i h; exact (nextFrom_none x _ h _ k (by omega) hg).symm
    · rename_i h; exact (nextFrom_low x _ h _ k (by omega) hg).symm

/-- The number of a set that has k others below it. -/
def atL (x : BitVec 64) (k : Int) : Int := if k < 0 then -1 else match (bitsL x)[k.toNat]? with | some i => (i : Int) | none => -1

/-- The bits from a place on. -/
def bitsFrom (x : BitVec 64) (i d : Nat) : List Nat := (List.range' i d).filter fun j => x.getLsbD j
theorem bitsFrom_all (x : BitVec 64) : bitsFrom x 0 64 = bitsL x := by unfold bitsFrom bitsL; rw [List.range_eq_range']
theorem bitsFrom_succ (x : BitVec 64) (i d : Nat) : bitsFrom x i (d + 1) = (if x.getLsbD i then [i] else []) ++ bitsFrom x (i + 1) d := by
  unfold bitsFrom
  rw [List.range'_succ, List.filter_cons]
  split <;> rfl
end Go.AM
