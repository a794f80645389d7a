/-
  Own work, merged: LBITS, V0, E0d, E0, E1, S1, V1, X0, T0, T1, T2.
-/
import Derived.AtR
import Derived.Below
import Derived.ChangeKeysEq
import Derived.KernelRfl
import Derived.Laws.AppendOwn
import Derived.Laws.BytesString
import Derived.Laws.Cells
import Derived.Laws.CopyRow
import Derived.Laws.Entries
import Derived.Laws.Rows
import Derived.Laws.Small
import Derived.Laws.StructEq
import Derived.Lib.TrailingZeros
import Derived.Maps.AppendAt
import Derived.Orders
import Derived.RangeFuncRecord
import Derived.Test.YtehimiadpgbhmaaDoorProg
import Derived.Test.YtehimiadpgbhmaaDoorQFECFE8
/-
  The bits of a word, one after another; the lowest one taken away. Plain arithmetic; of no program. Own work.
-/
namespace Go.AM

/-- The places of a word's one bits, rising. -/
def bitsL (x : BitVec 64) : List Nat := (List.range 64).filter fun i => x.getLsbD i

/-- The lowest one bit's place. -/
def tz (x : BitVec 64) : Nat := Go.Lib.ctz 64 x.toNat

theorem tz_parts (x : BitVec 64) (h : x ≠ 0#64) : ∃ m, x.toNat = 2 ^ tz x * (2 * m + 1) ∧ tz x < 64 := by
  have h0 : x.toNat ≠ 0 := fun e => h (BitVec.eq_of_toNat_eq (by simpa using e))
  have := Go.Lib.ctzFrom_spec 64 x.toNat (by omega) x.isLt
  unfold tz Go.Lib.ctz
  rw [if_neg h0]
  exact this

theorem testBit_parts (k m i : Nat) : (2 ^ k * (2 * m + 1)).testBit i = (decide (i = k) || (decide (k < i) && m.testBit (i - k - 1))) := by
  rw [Nat.mul_comm, Nat.testBit_mul_two_pow]
  by_cases hik : k ≤ i
  · by_cases he : i = k
    · subst he; simp
    · obtain ⟨j, rfl⟩ : ∃ j, i = k + (j + 1) := ⟨i - k - 1, by omega⟩
      have e3 : k + (j + 1) - k = j + 1 := by omega
      have e4 : j + 1 - 1 = j := by omega
      have d1 : (2 * m + 1) / 2 = m := by omega
      rw [e3, e4, Nat.testBit_succ, d1]
      have : ¬ k + (j + 1) = k := by omega
      have h2 : k < k + (j + 1) := by omega
      have h3 : k ≤ k + (j + 1) := by omega
      simp [h2, h3]
  · have : ¬ i = k := by omega
    have h2 : ¬ k < i := by omega
    simp [hik, this, h2]

theorem testBit_pred (k m i : Nat) : (2 ^ k * (2 * m + 1) - 1).testBit i = (decide (i < k) || (decide (k < i) && m.testBit (i - k - 1))) := by
  have hpos : 0 < 2 ^ k := Nat.two_pow_pos k
  have e : 2 ^ k * (2 * m + 1) - 1 = 2 ^ k * (2 * m) + (2 ^ k - 1) := by
    rw [Nat.mul_add, Nat.mul_one]; omega
  rw [e, Nat.testBit_two_pow_mul_add _ (by omega)]
  by_cases hik : i < k
  · have : ¬ k < i := by omega
    simp [hik, Nat.testBit_two_pow_sub_one]
  · by_cases he : i = k
    · subst he; simp
    · obtain ⟨j, rfl⟩ : ∃ j, i = k + (j + 1) := ⟨i - k - 1, by omega⟩
      have e3 : k + (j + 1) - k = j + 1 := by omega
      have e4 : j + 1 - 1 = j := by omega
      have d1 : (2 * m) / 2 = m := by omega
      have h2 : k < k + (j + 1) := by omega
      simp only [hik, if_false, decide_false, Bool.false_or, h2, decide_true, Bool.true_and]
      rw [e3, e4, Nat.testBit_succ, d1]

theorem get_low (x : BitVec 64) (h : x ≠ 0#64) (i : Nat) : x.getLsbD i = true → tz x ≤ i := by
  obtain ⟨m, hm, _⟩ := tz_parts x h
  intro hi
  rw [BitVec.getLsbD, hm, testBit_parts] at hi
  simp at hi
  omega

theorem get_tz (x : BitVec 64) (h : x ≠ 0#64) : x.getLsbD (tz x) = true := by
  obtain ⟨m, hm, _⟩ := tz_parts x h
  rw [BitVec.getLsbD, hm, testBit_parts]
  simp

theorem tz_lt (x : BitVec 64) (h : x ≠ 0#64) : tz x < 64 := (tz_parts x h).elim fun _ h => h.2

/-- The lowest one bit taken away. -/
def dropLow (x : BitVec 64) : BitVec 64 := x &&& (x - 1#64)

theorem get_dropLow (x : BitVec 64) (h : x ≠ 0#64) (i : Nat) : (dropLow x).getLsbD i = (x.getLsbD i && !decide (i = tz x)) := by
  obtain ⟨m, hm, hk⟩ := tz_parts x h
  have h0 : x.toNat ≠ 0 := fun e => h (BitVec.eq_of_toNat_eq (by simpa using e))
  have e1 : (x - 1#64).toNat = x.toNat - 1 := by
    rw [BitVec.toNat_sub]
    have := x.isLt
    have h1 : (1#64).toNat = 1 := rfl
    rw [h1]; omega
  unfold dropLow
  rw [BitVec.getLsbD_and, BitVec.getLsbD, BitVec.getLsbD, e1, hm, testBit_parts, testBit_pred]
  by_cases h1 : i = tz x
  · subst h1; simp
  · by_cases h2 : tz x < i
    · cases m.testBit (i - tz x - 1) <;> simp [h1, h2]
    · simp [h1, h2]

theorem bitsL_zero : bitsL 0#64 = [] := by
  unfold bitsL
  rw [List.filter_eq_nil_iff]
  intro i _; simp

theorem range_split (n : Nat) (p q : Nat → Bool) (k : Nat) (hk : k < n) (hlow : ∀ i, i < k → p i = false) (hp : p k = true) (hq : ∀ i, q i = (p i && !decide (i = k))) :
    (List.range n).filter p = k :: (List.range n).filter q := by
  have e : List.range n = List.range k ++ (k :: (List.range n).drop (k + 1)) := by
    have := List.take_append_drop k (List.range n)
    rw [List.take_range, Nat.min_eq_left (by omega), List.drop_eq_getElem_cons (by simpa using hk)] at this
    simpa using this.symm
  have hd : ∀ i ∈ (List.range n).drop (k + 1), k < i := by
    intro i hi
    rw [List.mem_iff_getElem] at hi
    obtain ⟨j, hj, rfl⟩ := hi
    simp; omega
  have f1 : (List.range k).filter p = [] := by
    rw [List.filter_eq_nil_iff]
    intro i hi; rw [hlow i (List.mem_range.1 hi)]; simp
  have f2 : (List.range k).filter q = [] := by
    rw [List.filter_eq_nil_iff]
    intro i hi; rw [hq, hlow i (List.mem_range.1 hi)]; simp
  have f3 : ((List.range n).drop (k + 1)).filter q = ((List.range n).drop (k + 1)).filter p := by
    refine List.filter_congr fun i hi => ?_
    have := hd i hi
    rw [hq]
    have : ¬ i = k := by omega
    simp [this]
  rw [e, List.filter_append, List.filter_append, f1, f2, List.nil_append, List.nil_append, List.filter_cons, List.filter_cons, if_pos hp]
  have : q k = false := by rw [hq]; simp
  rw [this, if_neg (by simp), f3]

theorem bitsL_cons (x : BitVec 64) (h : x ≠ 0#64) : bitsL x = tz x :: bitsL (dropLow x) := by
  refine range_split 64 _ _ _ (tz_lt x h) ?_ (get_tz x h) (get_dropLow x h)
  intro i hi
  cases hb : x.getLsbD i with
  | false => rfl
  | true => have := get_low x h i hb; omega

theorem bitsL_mem (x : BitVec 64) (i : Nat) : i ∈ bitsL x ↔ x.getLsbD i = true := by
  unfold bitsL
  rw [List.mem_filter, List.mem_range]
  constructor
  · exact fun h => h.2
  · intro h
    refine ⟨?_, h⟩
    rcases Nat.lt_or_ge i 64 with h1 | h1
    · exact h1
    · rw [BitVec.getLsbD_of_ge _ _ h1] at h; cases h

theorem bitsL_len_le (x : BitVec 64) : (bitsL x).length ≤ 64 := by
  have := List.length_filter_le (fun i => x.getLsbD i) (List.range 64)
  simpa [bitsL] using this

theorem pop_filter : ∀ (n x k : Nat), pop n x = ((List.range' k n).filter fun i => x.testBit (i - k)).length
  | 0, _, _ => rfl
  | n + 1, x, k => by
    rw [List.range'_succ, List.filter_cons]
    have h0 : x.testBit (k - k) = decide (x % 2 = 1) := by rw [Nat.sub_self, Nat.testBit_zero]
    have ih := pop_filter n (x / 2) (k + 1)
    have e : (List.range' (k + 1) n).filter (fun i => x.testBit (i - k)) = (List.range' (k + 1) n).filter (fun i => (x / 2).testBit (i - (k + 1))) := by
      refine List.filter_congr fun i hi => ?_
      have := List.mem_range'_1.1 hi
      rw [show i - k = (i - (k + 1)) + 1 by omega, Nat.testBit_succ]
    rw [e, h0]
    simp only [pop]
    by_cases h : x % 2 = 1
    · simp [h, ih]; omega
    · have : x % 2 = 0 := by omega
      simp [this, ih]

theorem pop_bits (x : BitVec 64) : pop 64 x.toNat = (bitsL x).length := by
  rw [pop_filter 64 _ 0]
  unfold bitsL
  rw [List.range_eq_range']
  rfl

end Go.AM

/-
  Relations by rows and by tests of their pairs: plain laws, taken over from the texts of layer 2. Own work.
-/
namespace Go.AM
namespace Rl
/-- A relation by its rows. -/
def by_ (n : Int) (f : Nat → BitVec 64) : Rl := ⟨n, Vector.ofFn fun i => f i.1⟩

theorem row_by (n : Int) (f : Nat → BitVec 64) (i : Nat) : (by_ n f).row i = if i < 64 then f i else 0#64 := by
  unfold row by_
  split
  · simp
  · rfl

theorem n_by (n : Int) (f : Nat → BitVec 64) : (by_ n f).n = n := rfl

theorem by_congr {n : Int} {f g : Nat → BitVec 64} (h : ∀ i, i < 64 → f i = g i) : by_ n f = by_ n g := by
  refine ext' rfl fun i hi => ?_
  rw [row_by, row_by, if_pos hi, if_pos hi, h i hi]

theorem set_by (n : Int) (f : Nat → BitVec 64) (i : Nat) (x : BitVec 64) : (by_ n f).setRow i x = by_ n (fun j => if i = j then x else f j) := by
  refine ext' (by rw [n_setRow]; rfl) fun j hj => ?_
  rw [row_setRow, row_by, row_by, if_pos hj, if_pos hj]
  by_cases h : i = j
  · subst h; simp [hj]
  · simp [h]

theorem void_by (n : Int) : void n = by_ n (fun _ => 0#64) := by
  refine ext' rfl fun i _ => ?_
  rw [row_void, row_by]; split <;> rfl

end Rl

theorem bit_iff (x : BitVec 64) (k : Nat) : (x >>> k &&& 1#64) = 1#64 ↔ x.getLsbD k = true := by
  constructor
  · intro h
    have := congrArg (fun y => BitVec.getLsbD y 0) h
    simpa using this
  · intro h
    apply BitVec.eq_of_getLsbD_eq
    intro i hi
    simp only [BitVec.getLsbD_and, BitVec.getLsbD_ushiftRight, BitVec.getLsbD_one]
    by_cases h0 : i = 0
    · subst h0; simp [h]
    · simp [h0]

theorem relV_one' (r : Rl) : (∀ c ∈ relV r, c.oneCell' = true) ↔ True := iff_true_intro (relV_one r)

/-- The word whose bits are a test's. -/
def bitsB (f : Nat → Bool) : BitVec 64 := (List.range 64).foldl (fun x i => if f i then x ||| 1#64 <<< i else x) 0#64

theorem one_shl_get (k j : Nat) (hk : k < 64) : (1#64 <<< k).getLsbD j = decide (j = k) := by
  rw [BitVec.getLsbD_shiftLeft, BitVec.getLsbD_one]
  by_cases h : j = k
  · subst h; simp [hk]
  · by_cases h1 : j < k
    · simp [h1, h]
    · have : ¬ j - k = 0 := by omega
      simp [this, h]

theorem bitsB_fold (f : Nat → Bool) : ∀ (l : List Nat) (x : BitVec 64) (j : Nat), (∀ i ∈ l, i < 64) →
    (l.foldl (fun x i => if f i then x ||| 1#64 <<< i else x) x).getLsbD j = (x.getLsbD j || (decide (j ∈ l) && f j))
  | [], x, j, _ => by simp
  | i :: l, x, j, h => by
    rw [List.foldl_cons, bitsB_fold f l _ j (fun i hi => h i (List.mem_cons_of_mem _ hi))]
    have hi := h i (List.mem_cons_self ..)
    by_cases hf : f i = true
    · rw [if_pos hf, BitVec.getLsbD_or, one_shl_get i j hi]
      by_cases hj : j = i
      · subst hj; simp [hf]
      · simp [hj]
    · rw [if_neg hf]
      by_cases hj : j = i
      · subst hj
        have : f j = false := by simpa using hf
        simp [this]
      · simp [hj]

theorem bitsB_get (f : Nat → Bool) (j : Nat) : (bitsB f).getLsbD j = (decide (j < 64) && f j) := by
  unfold bitsB
  rw [bitsB_fold f _ _ j (fun i hi => List.mem_range.1 hi)]
  simp

namespace Rl
/-- The relation over n numbers in which those pairs stand that pass a test. -/
def gen (n : Int) (q : Nat → Nat → Bool) : Rl := by_ n fun i => bitsB (q i)

theorem n_gen (n : Int) (q : Nat → Nat → Bool) : (gen n q).n = n := rfl

theorem has_gen (n : Int) (q : Nat → Nat → Bool) (a b : Nat) : (gen n q).has a b = (decide (a < 64 ∧ b < 64) && q a b) := by
  unfold has gen
  rw [row_by]
  by_cases ha : a < 64
  · rw [if_pos ha, bitsB_get]; simp [ha]
  · rw [if_neg ha]; simp [ha]

theorem gen_congr {n : Int} {q q' : Nat → Nat → Bool} (h : ∀ a b, a < 64 → b < 64 → q a b = q' a b) : gen n q = gen n q' :=
  ext_has rfl fun a b ha hb => by rw [has_gen, has_gen, h a b ha hb]

theorem has_lt (r : Rl) {a b : Nat} (h : r.has a b = true) : a < 64 ∧ b < 64 := by
  constructor
  · rcases Nat.lt_or_ge a 64 with h1 | h1
    · exact h1
    · rw [has, row_ge _ h1] at h; simp at h
  · rcases Nat.lt_or_ge b 64 with h1 | h1
    · exact h1
    · rw [has, BitVec.getLsbD_of_ge _ _ h1] at h; cases h

theorem gen_void (n : Int) : void n = gen n fun _ _ => false := by
  apply ext_has
  · rfl
  · intro a b _ _
    rw [has_gen, has, row_void]; simp

theorem gen_add (n : Int) (q : Nat → Nat → Bool) (a b : Nat) (ha : a < 64) (hb : b < 64) :
    (gen n q).setRow a ((gen n q).row a ||| 1#64 <<< b) = gen n fun x y => q x y || (decide (x = a) && decide (y = b)) := by
  refine ext_has (n_setRow _ _ _) fun x y hx hy => ?_
  rw [has_gen, has, row_setRow]
  by_cases h : a = x
  · subst h
    rw [if_pos ⟨rfl, ha⟩, BitVec.getLsbD_or, one_shl_get b y hb]
    have : ((gen n q).row a).getLsbD y = (gen n q).has a y := rfl
    rw [this, has_gen]
    simp [ha, hy]
  · rw [if_neg (by simp [h])]
    have : ((gen n q).row x).getLsbD y = (gen n q).has x y := rfl
    rw [this, has_gen]
    simp [hx, hy, Ne.symm h]

theorem has_setRow (r : Rl) (a : Nat) (w : BitVec 64) (x y : Nat) : (r.setRow a w).has x y = if a = x ∧ a < 64 then w.getLsbD y else r.has x y := by
  rw [has, row_setRow]; split <;> rfl

/-- Those pairs of a test that have been looked at: all of the rows below a, of row a those below b. -/
def seen (p : Nat → Nat → Bool) (a b : Nat) : Nat → Nat → Bool := fun x y => p x y && (decide (x < a) || (decide (x = a) && decide (y < b)))

theorem seen_yes {n : Int} {p : Nat → Nat → Bool} {a b : Nat} (ha : a < 64) (hb : b < 64) (h : p a b = true) :
    (gen n (seen p a b)).setRow a ((gen n (seen p a b)).row a ||| 1#64 <<< b) = gen n (seen p a (b + 1)) := by
  rw [gen_add _ _ _ _ ha hb]
  refine gen_congr fun x y _ _ => ?_
  unfold seen
  by_cases hx : x = a
  · subst hx
    by_cases hy : y = b
    · subst hy; simp [h]
    · have e : decide (y < b + 1) = decide (y < b) := decide_eq_decide.2 (by omega)
      simp [hy, e]
  · simp [hx]

theorem seen_no {n : Int} {p : Nat → Nat → Bool} {a b : Nat} (h : p a b = false) : gen n (seen p a b) = gen n (seen p a (b + 1)) := by
  refine gen_congr fun x y _ _ => ?_
  unfold seen
  by_cases hx : x = a
  · subst hx
    by_cases hy : y = b
    · subst hy; simp [h]
    · have e : decide (y < b + 1) = decide (y < b) := decide_eq_decide.2 (by omega)
      simp [e]
  · simp [hx]

theorem seen_row {n : Int} {p : Nat → Nat → Bool} {a b : Nat} (hp : ∀ x y, p x y = true → y < b) : gen n (seen p a b) = gen n (seen p (a + 1) 0) := by
  refine gen_congr fun x y _ _ => ?_
  unfold seen
  cases hxy : p x y with
  | false => simp
  | true =>
    have := hp x y hxy
    rw [Bool.eq_iff_iff]
    simp
    omega

theorem seen_0 (n : Int) (p : Nat → Nat → Bool) : gen n (seen p 0 0) = void n := by
  rw [gen_void]
  refine gen_congr fun x y _ _ => ?_
  unfold seen; simp

theorem seen_all {n : Int} {p : Nat → Nat → Bool} {a : Nat} (hp : ∀ x y, p x y = true → x < a) : gen n (seen p a 0) = gen n p := by
  refine gen_congr fun x y _ _ => ?_
  unfold seen
  cases hxy : p x y with
  | false => simp
  | true => have := hp x y hxy; simp [this]

end Rl
end Go.AM
namespace Go.Proofs.YtehimiadpgbhmaaDoor
open Go.AM
set_option maxRecDepth 100000

@[simp] theorem zrel : z32 = relV (Rl.void 0) := rfl
@[simp] theorem sz_int : tab.size 3 = some 1 := rfl
@[simp] theorem sz_rows : tab.size 30 = some 64 := rfl
@[simp] theorem splice_void (n : Int) : splice (relV (Rl.void 0)) 0 [.int .i64 n] = relV (Rl.void n) := rfl
/-- May a pair stand in a relation? -/
def okBit (r : Rl) (a b : Nat) : Prop := ¬ (r.has a b = true ∧ ((a : Int) ≥ r.n ∨ (b : Int) ≥ r.n))

theorem good_iff (r : Rl) (a : Nat) (h0 : 0 ≤ r.n) : good r a = true ↔ ∀ b, b < 64 → okBit r a b := by
  unfold good okBit Rl.has
  constructor
  · intro h b hb hbad
    simp only [Bool.not_eq_true', Bool.or_eq_false_iff, Bool.and_eq_false_iff, decide_eq_false_iff_not, bne_eq_false_iff_eq] at h
    obtain ⟨h1, h2⟩ := h
    rcases hbad.2 with h3 | h3
    · rcases h1 with h4 | h4
      · exact h4 h3
      · rw [h4] at hbad; simp at hbad
    · have := congrArg (fun x => BitVec.getLsbD x b) h2
      simp only [BitVec.getLsbD_and, BitVec.getLsbD_not, hbad.1, mask_get _ _ h0, BitVec.getLsbD_zero] at this
      simp at this
      omega
  · intro h
    simp only [Bool.not_eq_true', Bool.or_eq_false_iff, Bool.and_eq_false_iff, decide_eq_false_iff_not, bne_eq_false_iff_eq]
    constructor
    · by_cases c : (a : Int) ≥ r.n
      · right
        apply BitVec.eq_of_getLsbD_eq
        intro b hb
        have := h b hb
        rw [BitVec.getLsbD_zero]
        cases hh : (r.row a).getLsbD b
        · rfl
        · exact absurd ⟨hh, .inl c⟩ this
      · exact .inl c
    · apply BitVec.eq_of_getLsbD_eq
      intro b hb
      rw [BitVec.getLsbD_zero, BitVec.getLsbD_and, BitVec.getLsbD_not, mask_get _ _ h0]
      cases hh : (r.row a).getLsbD b
      · rfl
      · have := h b hb
        have h3 : (b : Int) < r.n := by
          rcases Int.lt_or_le (b : Int) r.n with h3 | h3
          · exact h3
          · exact absurd ⟨hh, .inr h3⟩ this
        simp [hb, h3]

open Classical in
/-- The relation, if it is right. -/
noncomputable def rightL (r : Rl) : Rl := if checkI r = 0 then r else Rl.void 0

theorem right_ok (r : Rl) (w : World) : Gives Tryd.prog 46 [encRel r] w (encRel (rightL r)) := by
  refine Gives.of_run Tryd.func46 rfl (by show 1 ≤ 8; decide) ?_
  refine RunF_sound tab_ok noX_local 100 [] _ _ rfl ?_ ?_
  · simp
  refine Run.callFn noX_local rfl rfl rfl rfl rfl rfl rfl check_enters rfl (fun w' _ => check_ok r w') ?_
  by_cases h : checkI r = 0
  · refine RunF_sound tab_ok noX_local 100 [false] _ _ rfl ?_ ?_
    · simp [h, segsVals, relV_one']
    · refine Run.retP tab_ok Tryd.func46 rfl ?_ (fun M => ?_)
      · simp
      rw [rightL, if_pos h]; rfl
  · refine RunF_sound tab_ok noX_local 100 [true] _ _ rfl ?_ ?_
    · simp [h, fillL, Value.cells, segsVals, relV_one']
    · refine Run.retP tab_ok Tryd.func46 rfl ?_ (fun M => ?_)
      · simp [fillL, Value.cells]
      rw [rightL, if_neg h]; rfl

theorem right_enters : Enters Tryd.prog 46 := enters_mk Tryd.func46 (by decide) rfl

/-- A right relation's bounds. -/
theorem rightL_n (r : Rl) : 0 ≤ (rightL r).n ∧ (rightL r).n ≤ 64 := by
  unfold rightL
  split
  · rename_i h
    unfold checkI at h
    split at h
    · cases h
    · omega
  · simp [Rl.void]

theorem good_void : ∀ i, i < 64 → good (Rl.void 0) i = true := by
  intro i _
  unfold good
  rw [Rl.row_void]
  simp

theorem rightL_good (r : Rl) : ∀ i, i < 64 → good (rightL r) i = true := by
  unfold rightL
  split
  · rename_i h
    unfold checkI at h
    split at h
    · cases h
    · split at h
      · rename_i h2; exact h2
      · cases h
  · exact good_void

theorem checkI_right (r : Rl) : checkI (rightL r) = 0 := by
  have h := rightL_n r
  unfold checkI
  rw [if_neg (by omega), if_pos (rightL_good r)]

theorem rightL_of (r : Rl) (h : checkI r = 0) : rightL r = r := by unfold rightL; rw [if_pos h]

theorem rightL_idem (r : Rl) : rightL (rightL r) = rightL r := rightL_of _ (checkI_right r)

/-- Where a right relation's pairs are. -/
theorem right_has (r : Rl) (a b : Nat) (h : (rightL r).has a b = true) : (a : Int) < (rightL r).n ∧ (b : Int) < (rightL r).n := by
  have hn := rightL_n r
  have ha : a < 64 := by
    rcases Nat.lt_or_ge a 64 with h1 | h1
    · exact h1
    · rw [Rl.has, Rl.row_ge _ h1] at h; simp at h
  have hb : b < 64 := by
    rcases Nat.lt_or_ge b 64 with h1 | h1
    · exact h1
    · rw [Rl.has, BitVec.getLsbD_of_ge _ _ h1] at h; cases h
  have := (good_iff (rightL r) a hn.1).1 (rightL_good r a ha) b hb
  unfold okBit at this
  by_cases h1 : (a : Int) < (rightL r).n
  · by_cases h2 : (b : Int) < (rightL r).n
    · exact ⟨h1, h2⟩
    · exact absurd ⟨h, .inr (by omega)⟩ this
  · exact absurd ⟨h, .inl (by omega)⟩ this

theorem right_row0 (r : Rl) (i : Nat) (h : (rightL r).n ≤ (i : Int)) : (rightL r).row i = 0#64 := by
  apply BitVec.eq_of_getLsbD_eq
  intro j _
  rw [BitVec.getLsbD_zero]
  cases hb : ((rightL r).row i).getLsbD j with
  | false => rfl
  | true => have := right_has r i j hb; omega

theorem relV_tail_one (r : Rl) : (∀ c ∈ (relV r).tail, c.oneCell' = true) ↔ True := iff_true_intro fun c hc => relV_one r c (List.mem_of_mem_tail hc)

theorem by_row (r : Rl) : Rl.by_ r.n r.row = r := by
  apply Rl.ext'
  · exact Rl.n_by _ _
  · intro i hi
    rw [Rl.row_by, if_pos hi]

def notP (r : Rl) (k : Nat) : Rl := Rl.by_ r.n fun i => if i < k then mask r.n &&& ~~~(r.row i) else r.row i

theorem n_notP (r : Rl) (k : Nat) : (notP r k).n = r.n := Rl.n_by _ _

theorem notP_0 (r : Rl) : notP r 0 = r := by
  unfold notP
  conv => rhs; rw [← by_row r]
  exact Rl.by_congr fun i _ => by simp

theorem notP_row (r : Rl) (k : Nat) (hk : k < 64) : (notP r k).row k = r.row k := by
  rw [notP, Rl.row_by, if_pos hk, if_neg (by omega)]

theorem notP_step (r : Rl) (k : Nat) : (notP r k).setRow k (mask r.n &&& ~~~(r.row k)) = notP r (k + 1) := by
  unfold notP
  rw [Rl.set_by]
  refine Rl.by_congr fun i _ => ?_
  by_cases h : k = i
  · subst h; simp
  · rw [if_neg h]
    have : (i < k) ↔ (i < k + 1) := by omega
    simp only [this]

noncomputable def notL (r : Rl) : Rl := notP (rightL r) (rightL r).n.toNat

theorem not_ok (r : Rl) (w : World) : Gives Tryd.prog 41 [encRel r] w (encRel (notL r)) := by
  refine Gives.of_run Tryd.func41 rfl (by show 1 ≤ 24; decide) ?_
  refine RunF_sound tab_ok noX_local 100 [] _ _ rfl ?_ ?_
  · simp
  refine Run.callFn noX_local rfl rfl rfl rfl rfl rfl rfl right_enters rfl (fun w' _ => right_ok r w') ?_
  have hn := rightL_n r
  unfold notL
  generalize rightL r = R at hn
  refine RunF_sound tab_ok noX_local 100 [] _ _ rfl ?_ ?_
  · simp [segsVals, relV_one']
  suffices H : ∀ (d k : Nat), (k : Int) + d = R.n → ∀ σ, inT σ.t [(1, .ptr 0 0), (2, .ptr 1 0), (7, .v (.int .i64 R.n)), (8, .v (.int .i64 (k : Int)))] →
      inT σ.h [(0, .cells 32 [.vals 65 (relV (notP R k))]), (1, .cells 32 [.vals 65 (relV (Rl.void 0))])] → Run _ _ σ by
    refine H R.n.toNat 0 (by omega) _ ⟨rfl, rfl, ?_, rfl, trivial⟩ ⟨?_, rfl, trivial⟩
    · simp [lk]
    · rw [notP_0]; simp [lk]
  intro d
  induction d with
  | zero =>
    intro k hk σ ht hh
    refine Run.to ?_ ht hh (n' := 2)
    refine RunF_sound tab_ok noX_local 100 [false] _ _ rfl ?_ ?_
    · simp [relV_one', segsVals]; omega
    · refine Run.retP tab_ok Tryd.func41 rfl ?_ (fun M => ?_)
      · simp
      have : R.n.toNat = k := by omega
      rw [this]; rfl
  | succ d ih =>
    intro k hk σ ht hh
    refine Run.to ?_ ht hh (n' := 2)
    have hk' : k < 64 := by omega
    refine RunF_sound tab_ok noX_local 100 [true] _ _ rfl ?_ ?_
    · simp; omega
    refine Run.drawA noX_local rfl [] [(0, .cells 32 [.vals 65 (relV (notP R k))])] rfl rfl ⟨rfl, trivial⟩ ?_
    refine RunOF_sound tab_ok noX_local rfl rfl 100 [] _ _ rfl ?_ ?_
    · simp [relV_get _ _ hk', intAt_row _ _ hk']; omega
    refine RunO.callFn (r := .int .u64 (un (mask R.n))) noX_local rfl rfl rfl rfl rfl rfl rfl rfl whole_enters rfl (fun w' _ => ?_) ?_
    · simp only [Nat.add_zero, Nat.sub_zero, intAt_0, n_notP]
      exact whole_ok R.n w' hn.1
    refine RunOF_sound tab_ok noX_local rfl rfl 2 [] _ _ rfl ?_ ?_
    · simp; omega
    refine RunO.effLast tab_ok noX_local rfl rfl rfl rfl ?_ (fun e => by cases e) rfl ?_
    · simp [okCell, Value.oneCell']; omega
    refine RunF_sound tab_ok noX_local 100 [] _ _ rfl ?_ ?_
    · simp
    refine ih (k + 1) (by omega) _ ⟨rfl, rfl, rfl, i64_eq (wrap_succ (by omega)), trivial⟩ ⟨congrArg (fun l => some (Blk.cells 32 [.vals 65 l])) ?_, rfl, trivial⟩
    have e1 : intAt (relV (notP R k)) (1 + k) = un (R.row k) := by rw [intAt_row _ _ hk', notP_row R k hk']
    simp [e1, relV_set _ _ hk', notP_step]

theorem not_enters : Enters Tryd.prog 41 := enters_mk Tryd.func41 (by decide) rfl

def pNot (R : Rl) (x y : Nat) : Bool := decide ((x : Int) < R.n ∧ (y : Int) < R.n) && !R.has x y

theorem has_row (r : Rl) (a b : Nat) : (r.row a).getLsbD b = r.has a b := rfl

theorem row0_of {R : Rl} (hR : rightL R = R) {i : Nat} (h : R.n ≤ (i : Int)) : R.row i = 0#64 := by
  have := right_row0 R i (by rw [hR]; exact h)
  rwa [hR] at this

theorem not_eq (r : Rl) : notL r = Rl.gen (rightL r).n (pNot (rightL r)) := by
  have hn := rightL_n r
  have hR := rightL_idem r
  unfold notL
  generalize rightL r = R at hn hR
  apply Rl.ext_has
  · rw [n_notP, Rl.n_gen]
  · intro x y hx hy
    rw [Rl.has_gen, decide_eq_true ⟨hx, hy⟩, Bool.true_and]
    show ((notP R R.n.toNat).row x).getLsbD y = _
    unfold notP pNot
    rw [Rl.row_by, if_pos hx]
    by_cases hlt : x < R.n.toNat
    · rw [if_pos hlt, BitVec.getLsbD_and, BitVec.getLsbD_not, mask_get _ _ hn.1, decide_eq_true hy, Bool.true_and, has_row]
      congr 1
      apply decide_eq_decide.2; omega
    · rw [if_neg hlt, row0_of hR (by omega), BitVec.getLsbD_zero, decide_eq_false (by omega), Bool.false_and]

theorem eqRow (r s : Rl) (w : World) : ∀ (is : List Nat), (∀ i ∈ is, i < 64) → ∃ b : Bool, (Op.eqItems 9998 29 1 (rowV r).toArray (rowV s).toArray is).run Tryd.prog w = .ok b w ∧ (b = true ↔ ∀ i ∈ is, r.row i = s.row i)
  | [], _ => ⟨true, by simp [Op.eqItems], by simp⟩
  | i :: is, h => by
    have hi : i < 64 := h i (by simp)
    have hu := tab_undP tab_ok (t := 29) (d := .int .u64) rfl
    have p : ∀ r : Rl, (part 29 (rowV r).toArray i).run Tryd.prog w = .ok (.int .u64 (un (r.row i))) w := fun r => by
      have := part_run tab_ok (P := Tryd.prog) (t := 29) (vs := (rowV r).toArray) (j := i) (p := _) (x := _) rfl (by rw [rowV_get r i hi, intAt_rowV r i hi]) w
      rw [this, intAt_rowV r i hi]
    have he : ∀ x y : Int, (Op.equalIn 9998 29 (.int .u64 x) (.int .u64 y)).run Tryd.prog w = .ok (x == y) w := fun x y => run_equalIn_int w 9997 _ _ _ _ _ hu
    obtain ⟨b, ih, hb⟩ := eqRow r s w is (fun j hj => h j (by simp [hj]))
    by_cases c : r.row i = s.row i
    · exact ⟨b, by simp [Op.eqItems, p, he, c, ih], by simp [hb, c]⟩
    · exact ⟨false, by simp [Op.eqItems, p, he, c], by simp [c]⟩

theorem eqRows (r s : Rl) (w : World) : ∃ b : Bool, (Op.equalIn 9999 30 (.agg (rowV r).toArray) (.agg (rowV s).toArray)).run Tryd.prog w = .ok b w ∧ (b = true ↔ ∀ i, i < 64 → r.row i = s.row i) := by
  have ha := tab_undP tab_ok (t := 30) (d := .array 64 29) rfl
  obtain ⟨i, hinfo⟩ : ∃ i, Tryd.prog.info? 29 = some i := by
    obtain ⟨_, x, hx, _⟩ := tab_ok 29 _ (rfl : lk tab 29 = some _)
    exact ⟨x, hx⟩
  have hc : Tryd.prog.cellsOf 29 = 1 := by kernel_rfl
  obtain ⟨b, hb, hb'⟩ := eqRow r s w (List.range 64) (fun i hi => List.mem_range.1 hi)
  refine ⟨b, ?_, hb'.trans ⟨fun h i hi => h i (List.mem_range.2 hi), fun h i hi => h i (List.mem_range.1 hi)⟩⟩
  rw [run_equalIn_array w 9998 _ _ ha hinfo, hc]
  exact hb

theorem relP0 (r : Rl) (w : World) : (part 3 (relV r).toArray 0).run Tryd.prog w = .ok (.int .i64 r.n) w :=
  part_run tab_ok (t := 3) (vs := (relV r).toArray) (j := 0) (p := _) (x := .int .i64 r.n) rfl (by simp) w

theorem relP1 (r : Rl) (w : World) : (part 30 (relV r).toArray 1).run Tryd.prog w = .ok (.agg (rowV r).toArray) w := by
  have := part_run tab_ok (P := Tryd.prog) (t := 30) (vs := (relV r).toArray) (j := 1) (p := _) (x := _) rfl (by simp) w
  simp only [relV_drop] at this
  exact this

theorem eqFields_cons {P : Program} {d : Nat} {xs ys : Array Value} {f : Field} {fs : List Field} {a b : Value} {r r' : Bool} {w : World} (hn : f.name ≠ "_") (ha : (part f.type xs f.offset).run P w = .ok a w) (hb : (part f.type ys f.offset).run P w = .ok b w)
    (hr : (Op.equalIn d f.type a b).run P w = .ok r w) (h : r = true → (Op.eqFields d xs ys fs).run P w = .ok r' w) : (Op.eqFields d xs ys (f :: fs)).run P w = .ok (r && r') w := by
  cases r
  · simp [Op.eqFields, hn, ha, hb, hr]
  · simp [Op.eqFields, hn, ha, hb, hr, h rfl]

theorem eqRel (r s : Rl) : EqT Tryd.prog 32 (relV r).toArray (relV s).toArray (decide (r = s)) := by
  refine ⟨by kernel_rfl, fun w => ?_⟩
  have hu := tab_undP tab_ok (t := 32) (d := .struct #[{ name := "N", type := 3, offset := 0, embedded := false, tag := "", pkgPath := "", byteOffset := 0 }, { name := "Rows", type := 30, offset := 1, embedded := false, tag := "", pkgPath := "", byteOffset := 8 }]) rfl
  have hf : Tryd.prog.fieldsOf 32 = #[{ name := "N", type := 3, offset := 0, embedded := false, tag := "", pkgPath := "", byteOffset := 0 }, { name := "Rows", type := 30, offset := 1, embedded := false, tag := "", pkgPath := "", byteOffset := 8 }] := by simp [Program.fieldsOf, hu]
  rw [run_equalIn_struct w 9999 _ _ _ (by rw [hf]; exact hu) (by kernel_rfl), hf]
  have hi := tab_undP tab_ok (t := 3) (d := .int .i64) rfl
  have he : (Op.equalIn 9999 3 (.int .i64 r.n) (.int .i64 s.n)).run Tryd.prog w = .ok (r.n == s.n) w := run_equalIn_int w 9998 _ _ _ _ _ hi
  obtain ⟨b, hr, hb⟩ := eqRows r s w
  have e : decide (r = s) = ((r.n == s.n) && (b && true)) := by
    rw [Bool.eq_iff_iff, decide_eq_true_eq, Rl.ext_iff', Bool.and_true, Bool.and_eq_true, beq_iff_eq, hb]
  rw [e]
  exact eqFields_cons (by decide) (relP0 r w) (relP0 s w) he fun _ => eqFields_cons (by decide) (relP1 r w) (relP1 s w) hr fun _ => by simp [Op.eqFields]

end Go.Proofs.YtehimiadpgbhmaaDoor

/-
  Events as values; lists of them in a world; short (E0 without SameEvents, for cuts that lack it). Own work.
-/
namespace Go.Proofs.YtehimiadpgbhmaaDoor
open Go.AM
set_option maxRecDepth 100000

/-- An event. -/
structure Ev where
  kind : Int
  thread : Int
  index : Int
  loc : Int
  locked : Bool
  deriving DecidableEq

def evV (e : Ev) : List Value := [.int .i64 e.kind, .int .i64 e.thread, .int .i64 e.index, .int .i64 e.loc, .bool e.locked]
def encEv (e : Ev) : Value := .agg (evV e).toArray

@[simp] theorem evV_len (e : Ev) : (evV e).length = 5 := rfl
@[simp] theorem intAt_k (e : Ev) : intAt (evV e) 0 = e.kind := rfl
@[simp] theorem intAt_t (e : Ev) : intAt (evV e) 1 = e.thread := rfl
@[simp] theorem intAt_i (e : Ev) : intAt (evV e) 2 = e.index := rfl
@[simp] theorem intAt_l (e : Ev) : intAt (evV e) 3 = e.loc := rfl
@[simp] theorem boolAt_l (e : Ev) : boolAt (evV e) 4 = e.locked := rfl
@[simp] theorem evV_0 (e : Ev) : (evV e)[0]? = some (.int .i64 e.kind) := rfl
@[simp] theorem evV_1 (e : Ev) : (evV e)[1]? = some (.int .i64 e.thread) := rfl
@[simp] theorem evV_2 (e : Ev) : (evV e)[2]? = some (.int .i64 e.index) := rfl
@[simp] theorem evV_3 (e : Ev) : (evV e)[3]? = some (.int .i64 e.loc) := rfl
@[simp] theorem evV_4 (e : Ev) : (evV e)[4]? = some (.bool e.locked) := rfl
theorem evV_one (e : Ev) : (∀ c ∈ evV e, c.oneCell' = true) ↔ True := iff_true_intro fun c hc => by
  simp only [evV, List.mem_cons, List.not_mem_nil, or_false] at hc
  rcases hc with rfl | rfl | rfl | rfl | rfl <;> rfl
@[simp] theorem zev : z52 = evV ⟨0, 0, 0, 0, false⟩ := rfl
@[simp] theorem splice_ev (e d : Ev) : splice (evV e) 0 (evV d) = evV d := rfl

/-- A slice of events, as it lies in a world. -/
def SeesV (w : World) (p : Option Addr) (xs : List Ev) : Prop :=
  ∀ i (h : i < xs.length), p = some (p.getD default) ∧ ∀ j x, (evV xs[i])[j]? = some x → w.cell? ((p.getD default).add (i * 5 + j)) = some x

theorem SeesV.agree {S : Nat → Prop} {w w' : World} {p : Option Addr} {xs : List Ev} (h : SeesV w p xs) (hA : Agree S w w') (hS : ∀ a, p = some a → ¬ S a.block) : SeesV w' p xs := by
  intro i hi
  obtain ⟨h1, h2⟩ := h i hi
  exact ⟨h1, fun j x hx => hA.cell (h2 j x hx) (by rw [add_block]; exact hS _ h1)⟩

theorem add_add (a : Addr) (i j : Nat) : (a.add i).add j = a.add (i + j) := by
  obtain ⟨b, o, x⟩ := a
  unfold Addr.add
  by_cases hi : i = 0
  · subst hi; simp
  · by_cases hj : j = 0
    · subst hj; simp [hi]
    · have : ¬ i + j = 0 := by omega
      simp [hi, hj, this, Nat.add_assoc]

theorem SeesV.ext {w : World} {p : Option Addr} {xs : List Ev} (h : SeesV w p xs) (i : Nat) (hi : i < xs.length) : extCells w ((p.getD default).add (i * 5)) 0 5 = evV xs[i] := by
  have h2 := (h i hi).2
  have c : ∀ j x, (evV xs[i])[j]? = some x → w.cell? (((p.getD default).add (i * 5)).add j) = some x := fun j x hx => by rw [add_add]; exact h2 j x hx
  simp only [extCells, c 0 _ (evV_0 _), c (0 + 1) _ (evV_1 _), c (0 + 1 + 1) _ (evV_2 _), c (0 + 1 + 1 + 1) _ (evV_3 _), c (0 + 1 + 1 + 1 + 1) _ (evV_4 _)]
  rfl
theorem SeesV.some {w : World} {p : Option Addr} {xs : List Ev} (h : SeesV w p xs) (i : Nat) (hi : i < xs.length) : ∀ j, j < 5 → (w.cell? (((p.getD default).add (i * 5)).add j)).isSome := by
  have h2 := (h i hi).2
  have c : ∀ j x, (evV xs[i])[j]? = Option.some x → w.cell? (((p.getD default).add (i * 5)).add j) = Option.some x := fun j x hx => by rw [add_add]; exact h2 j x hx
  intro j hj
  rcases (show j = 0 ∨ j = 1 ∨ j = 2 ∨ j = 3 ∨ j = 4 by omega) with rfl | rfl | rfl | rfl | rfl
  · rw [c 0 _ (evV_0 _)]; rfl
  · rw [c 1 _ (evV_1 _)]; rfl
  · rw [c 2 _ (evV_2 _)]; rfl
  · rw [c 3 _ (evV_3 _)]; rfl
  · rw [c 4 _ (evV_4 _)]; rfl
theorem SeesV.field {w : World} {p : Option Addr} {xs : List Ev} (h : SeesV w p xs) (i : Nat) (hi : i < xs.length) {j : Nat} {x : Value} (hx : (evV xs[i])[j]? = Option.some x) : w.cell? (((p.getD default).add (i * 5)).add j) = Option.some x := by
  rw [add_add]; exact (h i hi).2 j x hx

theorem evP0 (e : Ev) (w : World) : (part 3 (evV e).toArray 0).run Tryd.prog w = .ok (.int .i64 e.kind) w :=
  part_run tab_ok (t := 3) (vs := (evV e).toArray) (j := 0) (p := _) (x := .int .i64 e.kind) rfl (by simp) w
theorem evP1 (e : Ev) (w : World) : (part 3 (evV e).toArray 1).run Tryd.prog w = .ok (.int .i64 e.thread) w :=
  part_run tab_ok (t := 3) (vs := (evV e).toArray) (j := 1) (p := _) (x := .int .i64 e.thread) rfl (by simp) w
theorem evP2 (e : Ev) (w : World) : (part 3 (evV e).toArray 2).run Tryd.prog w = .ok (.int .i64 e.index) w :=
  part_run tab_ok (t := 3) (vs := (evV e).toArray) (j := 2) (p := _) (x := .int .i64 e.index) rfl (by simp) w
theorem evP3 (e : Ev) (w : World) : (part 3 (evV e).toArray 3).run Tryd.prog w = .ok (.int .i64 e.loc) w :=
  part_run tab_ok (t := 3) (vs := (evV e).toArray) (j := 3) (p := _) (x := .int .i64 e.loc) rfl (by simp) w
theorem evP4 (e : Ev) (w : World) : (part 4 (evV e).toArray 4).run Tryd.prog w = .ok (.bool e.locked) w :=
  part_run tab_ok (t := 4) (vs := (evV e).toArray) (j := 4) (p := _) (x := .bool e.locked) rfl (by simp) w
theorem eqEv (a b : Ev) : EqT Tryd.prog 52 (evV a).toArray (evV b).toArray (decide (a = b)) := by
  refine ⟨by kernel_rfl, fun w => ?_⟩
  have hi := tab_undP tab_ok (t := 3) (d := .int .i64) rfl
  have hb := tab_undP tab_ok (t := 4) (d := .bool) rfl
  have hu := tab_undP tab_ok (t := 52) (d := .struct #[{ name := "Kind", type := 3, offset := 0, embedded := false, tag := "", pkgPath := "", byteOffset := 0 }, { name := "Thread", type := 3, offset := 1, embedded := false, tag := "", pkgPath := "", byteOffset := 8 }, { name := "Index", type := 3, offset := 2, embedded := false, tag := "", pkgPath := "", byteOffset := 16 }, { name := "Loc", type := 3, offset := 3, embedded := false, tag := "", pkgPath := "", byteOffset := 24 }, { name := "Locked", type := 4, offset := 4, embedded := false, tag := "", pkgPath := "", byteOffset := 32 }]) rfl
  have hf : Tryd.prog.fieldsOf 52 = #[{ name := "Kind", type := 3, offset := 0, embedded := false, tag := "", pkgPath := "", byteOffset := 0 }, { name := "Thread", type := 3, offset := 1, embedded := false, tag := "", pkgPath := "", byteOffset := 8 }, { name := "Index", type := 3, offset := 2, embedded := false, tag := "", pkgPath := "", byteOffset := 16 }, { name := "Loc", type := 3, offset := 3, embedded := false, tag := "", pkgPath := "", byteOffset := 24 }, { name := "Locked", type := 4, offset := 4, embedded := false, tag := "", pkgPath := "", byteOffset := 32 }] := by simp [Program.fieldsOf, hu]
  rw [run_equalIn_struct w 9999 _ _ _ (by rw [hf]; exact hu) (by kernel_rfl), hf]
  have he : ∀ x y : Int, (Op.equalIn 9999 3 (.int .i64 x) (.int .i64 y)).run Tryd.prog w = .ok (x == y) w := fun x y => run_equalIn_int w 9998 _ _ _ _ _ hi
  have hg : ∀ x y : Bool, (Op.equalIn 9999 4 (.bool x) (.bool y)).run Tryd.prog w = .ok (x == y) w := fun x y => run_equalIn_bool w 9998 _ _ _ hb
  have e : decide (a = b) = ((a.kind == b.kind) && ((a.thread == b.thread) && ((a.index == b.index) && ((a.loc == b.loc) && ((a.locked == b.locked) && true))))) := by
    obtain ⟨a1, a2, a3, a4, a5⟩ := a
    obtain ⟨b1, b2, b3, b4, b5⟩ := b
    rw [Bool.eq_iff_iff, decide_eq_true_eq, Ev.mk.injEq]
    simp
  rw [e]
  exact eqFields_cons (by decide) (evP0 a w) (evP0 b w) (he _ _) fun _ => eqFields_cons (by decide) (evP1 a w) (evP1 b w) (he _ _) fun _ => eqFields_cons (by decide) (evP2 a w) (evP2 b w) (he _ _) fun _ =>
    eqFields_cons (by decide) (evP3 a w) (evP3 b w) (he _ _) fun _ => eqFields_cons (by decide) (evP4 a w) (evP4 b w) (hg _ _) fun _ => by simp [Op.eqFields]

def shortL (xs : List Ev) : List Ev := if xs.length > 64 then [] else xs
theorem shortL_le (xs : List Ev) : (shortL xs).length ≤ 64 := by
  unfold shortL
  split
  · simp
  · omega

/-- The short one, as a value. -/
def shortV (p : Option Addr) (c : Nat) (xs : List Ev) : Value := if xs.length > 64 then .slice none 0 0 else .slice p xs.length c

theorem short_ok (p : Option Addr) (c : Nat) (xs : List Ev) (w : World) : Gives Tryd.prog 23 [.slice p xs.length c] w (shortV p c xs) := by
  refine Gives.of_run Tryd.func23 rfl (by show 1 ≤ 7; decide) ?_
  by_cases h : xs.length > 64
  · refine RunF_sound tab_ok noX_local 100 [true] _ _ rfl ?_ ?_
    · simp; omega
    refine Run.retP tab_ok Tryd.func23 rfl trivial (fun M => ?_)
    rw [shortV, if_pos h]; rfl
  · refine RunF_sound tab_ok noX_local 100 [false] _ _ rfl ?_ ?_
    · simp; omega
    refine Run.retP tab_ok Tryd.func23 rfl trivial (fun M => ?_)
    rw [shortV, if_neg h]; rfl
theorem short_enters : Enters Tryd.prog 23 := enters_mk Tryd.func23 (by decide) rfl

theorem shortR_ok (p : Option Addr) (c : Nat) (xs : List Ev) (w : World) : Gives Tryd.prog 24 [.slice p xs.length c] w (shortV p c xs) := by
  refine Gives.of_run Tryd.func24 rfl (by show 1 ≤ 7; decide) ?_
  by_cases h : xs.length > 64
  · refine RunF_sound tab_ok noX_local 100 [true] _ _ rfl ?_ ?_
    · simp; omega
    refine Run.retP tab_ok Tryd.func24 rfl trivial (fun M => ?_)
    rw [shortV, if_pos h]; rfl
  · refine RunF_sound tab_ok noX_local 100 [false] _ _ rfl ?_ ?_
    · simp; omega
    refine Run.retP tab_ok Tryd.func24 rfl trivial (fun M => ?_)
    rw [shortV, if_neg h]; rfl
theorem shortR_enters : Enters Tryd.prog 24 := enters_mk Tryd.func24 (by decide) rfl

/-- What is short is a slice of what is short. -/
theorem short_form {w : World} {p : Option Addr} {xs : List Ev} (c : Nat) (h : SeesV w p xs) : ∃ p' c', shortV p c xs = .slice p' (shortL xs).length c' ∧ SeesV w p' (shortL xs) := by
  unfold shortV shortL
  split
  · exact ⟨none, 0, rfl, fun i hi => absurd hi (Nat.not_lt_zero _)⟩
  · exact ⟨p, c, rfl, h⟩

end Go.Proofs.YtehimiadpgbhmaaDoor

/-
  Stands for E0 where E0d is in use. Own work.
-/

/-
  The tests of events and of pairs of events. Own work; the walks of chains of tests printed by a program of our own.
-/
namespace Go.Proofs.YtehimiadpgbhmaaDoor
open Go.AM
set_option maxRecDepth 100000

theorem enc5 (e : Ev) : encEv e = .agg (evV e).toArray := rfl
def memB (e : Ev) : Bool := decide (e.kind ≥ 1) && decide (e.kind ≤ 3)
def togB (a b : Ev) : Bool := decide (a.thread = b.thread) && !decide (a.thread = -1)
def wrB (e : Ev) : Bool := decide (e.kind = 1) || decide (e.kind = 2)
def rdB (e : Ev) : Bool := decide (e.kind = 3)

theorem together_ok (a b : Ev) (w : World) : Gives Tryd.prog 39 [encEv a, encEv b] w (.bool (togB a b)) := by
  refine Gives.of_run Tryd.func39 rfl (by show 2 ≤ 15; decide) ?_
  by_cases c : a.thread = b.thread
  · refine RunF_sound tab_ok noX_local 100 [true] _ _ rfl ?_ ?_
    · simp [c]
    refine Run.retP tab_ok Tryd.func39 rfl trivial (fun M => ?_)
    by_cases c2 : b.thread = -1 <;> simp [conc, togB, c, c2]
  · refine RunF_sound tab_ok noX_local 100 [false] _ _ rfl ?_ ?_
    · simp [c]
    refine Run.retP tab_ok Tryd.func39 rfl trivial (fun M => ?_)
    simp [conc, togB, c]
theorem together_enters : Enters Tryd.prog 39 := enters_mk Tryd.func39 (by decide) rfl

theorem po1_ok (i k : Int) (a b : Ev) (w : World) : Gives Tryd.prog 38 [.int .i64 i, .int .i64 k, encEv a, encEv b] w (.bool (decide (i < k) && togB a b)) := by
  refine Gives.of_run Tryd.func38 rfl (by show 4 ≤ 17; decide) ?_
  by_cases c : i < k
  · refine RunF_sound tab_ok noX_local 100 [true] _ _ rfl ?_ ?_
    · simp [c]
    refine Run.callFn noX_local rfl rfl rfl rfl rfl rfl rfl together_enters rfl (fun w' _ => together_ok a b w') ?_
    refine RunF_sound tab_ok noX_local 100 [] _ _ rfl ?_ ?_
    · simp
    refine Run.retP tab_ok Tryd.func38 rfl trivial (fun M => ?_)
    simp [conc, c]
  · refine RunF_sound tab_ok noX_local 100 [false] _ _ rfl ?_ ?_
    · simp [c]
    refine Run.retP tab_ok Tryd.func38 rfl trivial (fun M => ?_)
    simp [conc, c]
theorem po1_enters : Enters Tryd.prog 38 := enters_mk Tryd.func38 (by decide) rfl

theorem int1_ok (i k : Int) (a b : Ev) (w : World) : Gives Tryd.prog 40 [.int .i64 i, .int .i64 k, encEv a, encEv b] w (.bool (togB a b)) := by
  refine Gives.of_run Tryd.func40 rfl (by show 4 ≤ 12; decide) ?_
  refine RunF_sound tab_ok noX_local 100 [] _ _ rfl ?_ ?_
  · simp
  refine Run.callFn noX_local rfl rfl rfl rfl rfl rfl rfl together_enters rfl (fun w' _ => together_ok a b w') ?_
  refine RunF_sound tab_ok noX_local 100 [] _ _ rfl ?_ ?_
  · simp
  exact Run.retP tab_ok Tryd.func40 rfl trivial (fun M => rfl)
theorem int1_enters : Enters Tryd.prog 40 := enters_mk Tryd.func40 (by decide) rfl

def rmwB (i k : Int) (a b : Ev) : Bool := ((((((decide (i < k) && togB a b) && decide (a.index = b.index)) && a.locked) && b.locked) && decide (a.kind = 3)) && (decide (b.kind = 2) || decide (b.kind = 1)))

theorem rmw1_ok (i k : Int) (a b : Ev) (w : World) : Gives Tryd.prog 48 [.int .i64 i, .int .i64 k, encEv a, encEv b] w (.bool (rmwB i k a b)) := by
  refine Gives.of_run Tryd.func48 rfl (by show 4 ≤ 47; decide) ?_
  by_cases c1 : i < k
  · refine RunF_sound tab_ok noX_local 200 [true] _ _ rfl ?_ ?_
    · simp [c1]
    refine Run.callFn noX_local rfl rfl rfl rfl rfl rfl rfl together_enters rfl (fun w' _ => together_ok a b w') ?_
    by_cases c2 : togB a b = true
    · have _ := c2
      by_cases c3 : a.index = b.index
      · have _ := c3
        by_cases c4 : a.locked = true
        · have _ := c4
          by_cases c5 : b.locked = true
          · have _ := c5
            by_cases c6 : a.kind = 3
            · have _ := c6
              by_cases c7 : b.kind = 2
              · have _ := c7
                refine RunF_sound tab_ok noX_local 200 [true, true, true, true, true, true] _ _ rfl ?_ ?_
                · simp [c2, c3, c4, c5, c6, c7]
                refine Run.retP tab_ok Tryd.func48 rfl trivial (fun M => ?_)
                simp [conc, rmwB, c1, c2, c3, c4, c5, c6, c7]
              · have _ := c7
                refine RunF_sound tab_ok noX_local 200 [true, true, true, true, true, false] _ _ rfl ?_ ?_
                · simp [c2, c3, c4, c5, c6, c7]
                refine Run.retP tab_ok Tryd.func48 rfl trivial (fun M => ?_)
                by_cases c8 : b.kind = 1 <;> simp [conc, rmwB, c1, c2, c3, c4, c5, c6, c7, c8]
            · have _ := c6
              refine RunF_sound tab_ok noX_local 200 [true, true, true, true, false] _ _ rfl ?_ ?_
              · simp [c2, c3, c4, c5, c6]
              refine Run.retP tab_ok Tryd.func48 rfl trivial (fun M => ?_)
              simp [conc, rmwB, c1, c2, c3, c4, c5, c6]
          · have _ := c5
            refine RunF_sound tab_ok noX_local 200 [true, true, true, false] _ _ rfl ?_ ?_
            · simp [c2, c3, c4, c5]
            refine Run.retP tab_ok Tryd.func48 rfl trivial (fun M => ?_)
            simp [conc, rmwB, c1, c2, c3, c4, c5]
        · have _ := c4
          refine RunF_sound tab_ok noX_local 200 [true, true, false] _ _ rfl ?_ ?_
          · simp [c2, c3, c4]
          refine Run.retP tab_ok Tryd.func48 rfl trivial (fun M => ?_)
          simp [conc, rmwB, c1, c2, c3, c4]
      · have _ := c3
        refine RunF_sound tab_ok noX_local 200 [true, false] _ _ rfl ?_ ?_
        · simp [c2, c3]
        refine Run.retP tab_ok Tryd.func48 rfl trivial (fun M => ?_)
        simp [conc, rmwB, c1, c2, c3]
    · have _ := c2
      refine RunF_sound tab_ok noX_local 200 [false] _ _ rfl ?_ ?_
      · simp [c2]
      refine Run.retP tab_ok Tryd.func48 rfl trivial (fun M => ?_)
      simp [conc, rmwB, c1, c2]
  · refine RunF_sound tab_ok noX_local 200 [false] _ _ rfl ?_ ?_
    · simp [c1]
    refine Run.retP tab_ok Tryd.func48 rfl trivial (fun M => ?_)
    simp [conc, rmwB, c1]
theorem rmw1_enters : Enters Tryd.prog 48 := enters_mk Tryd.func48 (by decide) rfl

theorem write_ok (e : Ev) (w : World) : Gives Tryd.prog 21 [encEv e] w (.bool (wrB e)) := by
  refine Gives.of_run Tryd.func21 rfl (by show 1 ≤ 11; decide) ?_
  by_cases c : e.kind = 1
  · refine RunF_sound tab_ok noX_local 100 [true] _ _ rfl ?_ ?_
    · simp [c]
    refine Run.retP tab_ok Tryd.func21 rfl trivial (fun M => ?_)
    simp [conc, wrB, c]
  · refine RunF_sound tab_ok noX_local 100 [false] _ _ rfl ?_ ?_
    · simp [c]
    refine Run.retP tab_ok Tryd.func21 rfl trivial (fun M => ?_)
    by_cases c2 : e.kind = 2 <;> simp [conc, wrB, c, c2]
theorem write_enters : Enters Tryd.prog 21 := enters_mk Tryd.func21 (by decide) rfl

theorem read_ok (e : Ev) (w : World) : Gives Tryd.prog 22 [encEv e] w (.bool (rdB e)) := by
  refine Gives.of_run Tryd.func22 rfl (by show 1 ≤ 6; decide) ?_
  refine RunF_sound tab_ok noX_local 100 [] _ _ rfl ?_ ?_
  · simp
  refine Run.retP tab_ok Tryd.func22 rfl trivial (fun M => ?_)
  by_cases c : e.kind = 3 <;> simp [conc, rdB, c]
theorem read_enters : Enters Tryd.prog 22 := enters_mk Tryd.func22 (by decide) rfl
end Go.Proofs.YtehimiadpgbhmaaDoor

/-
  The events of a program: what they are, how many, in which order. Plain. Own work.
-/
namespace Go.Proofs.YtehimiadpgbhmaaDoor
open Go.AM
set_option maxRecDepth 100000

/-- An instruction of a program, as a value. -/
structure Opn where
  kind : Int
  reg : Int
  src : Int
  loc : Int
  imm : Int
/-- The events of one instruction, and how many tries there have been behind it. -/
def opEv (f : BitVec 64) (i n : Nat) (o : Opn) (t : Nat) : List Ev × Nat :=
  if o.kind = 3 then ([⟨3, i, n, o.loc, false⟩], t)
  else if o.kind = 4 ∨ o.kind = 5 then ([⟨2, i, n, o.loc, false⟩], t)
  else if o.kind = 6 then ([⟨4, i, n, -1, false⟩], t)
  else if o.kind = 7 ∨ o.kind = 9 then ([⟨3, i, n, o.loc, true⟩, ⟨2, i, n, o.loc, true⟩], t)
  else if o.kind = 8 then (⟨3, i, n, o.loc, true⟩ :: (if f.getLsbD t = true then [] else [⟨2, i, n, o.loc, true⟩]), t + 1)
  else ([], t)
def thrEv (f : BitVec 64) (i : Nat) : List Opn → Nat → Nat → List Ev × Nat
  | [], _, t => ([], t)
  | o :: l, n, t => ((opEv f i n o t).1 ++ (thrEv f i l (n + 1) (opEv f i n o t).2).1, (thrEv f i l (n + 1) (opEv f i n o t).2).2)
def allEv (f : BitVec 64) : List (List Opn) → Nat → Nat → List Ev × Nat
  | [], _, t => ([], t)
  | l :: ls, i, t => ((thrEv f i l 0 t).1 ++ (allEv f ls (i + 1) (thrEv f i l 0 t).2).1, (allEv f ls (i + 1) (thrEv f i l 0 t).2).2)
def initEv (k : Nat) : List Ev := (List.range k).map fun j : Nat => ⟨1, -1, 0, (j : Int), false⟩
def listF (k : Nat) (ths : List (List Opn)) (f : BitVec 64) : List Ev := initEv k ++ (allEv f ths 0 0).1

def evN (o : Opn) : Nat := if o.kind = 3 ∨ o.kind = 4 ∨ o.kind = 5 ∨ o.kind = 6 then 1 else if o.kind = 7 ∨ o.kind = 8 ∨ o.kind = 9 then 2 else 0
def tryN (o : Opn) : Nat := if o.kind = 8 then 1 else 0
def sumN (g : Opn → Nat) : List Opn → Nat
  | [] => 0
  | o :: l => g o + sumN g l
def allN (g : Opn → Nat) : List (List Opn) → Nat
  | [] => 0
  | l :: ls => sumN g l + allN g ls
/-- How many of the first bits are set. -/
def cntB (f : BitVec 64) : Nat → Nat
  | 0 => 0
  | k + 1 => cntB f k + (if f.getLsbD k = true then 1 else 0)

theorem opEv_n (f : BitVec 64) (i n : Nat) (o : Opn) (t : Nat) : (opEv f i n o t).1.length + cntB f (opEv f i n o t).2 = evN o + cntB f t ∧ (opEv f i n o t).2 = t + tryN o := by
  unfold opEv evN tryN
  by_cases h3 : o.kind = 3
  · simp [h3]
  by_cases h4 : o.kind = 4 ∨ o.kind = 5
  · rcases h4 with h | h <;> simp [h]
  by_cases h6 : o.kind = 6
  · simp [h6]
  by_cases h7 : o.kind = 7 ∨ o.kind = 9
  · rcases h7 with h | h <;> simp [h]
  by_cases h8 : o.kind = 8
  · cases hb : f.getLsbD t with
    | true => simp [h8, cntB, hb]; omega
    | false => simp [h8, cntB, hb]
  · have : ¬ (o.kind = 3 ∨ o.kind = 4 ∨ o.kind = 5 ∨ o.kind = 6) := by omega
    have : ¬ (o.kind = 7 ∨ o.kind = 8 ∨ o.kind = 9) := by omega
    simp [*]
theorem thrEv_n (f : BitVec 64) (i : Nat) : ∀ (l : List Opn) (n t : Nat), (thrEv f i l n t).1.length + cntB f (thrEv f i l n t).2 = sumN evN l + cntB f t ∧ (thrEv f i l n t).2 = t + sumN tryN l
  | [], n, t => by simp [thrEv, sumN]
  | o :: l, n, t => by
    obtain ⟨h1, h2⟩ := opEv_n f i n o t
    obtain ⟨g1, g2⟩ := thrEv_n f i l (n + 1) (opEv f i n o t).2
    simp only [thrEv, sumN, List.length_append]
    omega
theorem allEv_n (f : BitVec 64) : ∀ (ls : List (List Opn)) (i t : Nat), (allEv f ls i t).1.length + cntB f (allEv f ls i t).2 = allN evN ls + cntB f t ∧ (allEv f ls i t).2 = t + allN tryN ls
  | [], i, t => by simp [allEv, allN]
  | l :: ls, i, t => by
    obtain ⟨h1, h2⟩ := thrEv_n f i l 0 t
    obtain ⟨g1, g2⟩ := allEv_n f ls (i + 1) (thrEv f i l 0 t).2
    simp only [allEv, allN, List.length_append]
    omega
theorem cntB_past {f : BitVec 64} {n : Nat} (h : ∀ j, n ≤ j → f.getLsbD j = false) : ∀ d, cntB f (n + d) = cntB f n
  | 0 => rfl
  | d + 1 => by rw [← Nat.add_assoc, cntB, h (n + d) (by omega), cntB_past h d]; rfl
/-- As many events as the program has at most, less the tries that fail. -/
theorem listF_n (k : Nat) (ths : List (List Opn)) (f : BitVec 64) (hn : allN tryN ths ≤ 64) (h : ∀ j, allN tryN ths ≤ j → f.getLsbD j = false) : (listF k ths f).length + cntB f 64 = k + allN evN ths := by
  obtain ⟨h1, h2⟩ := allEv_n f ths 0 0
  have h3 := cntB_past h (64 - allN tryN ths)
  rw [show allN tryN ths + (64 - allN tryN ths) = 64 by omega] at h3
  rw [h2, Nat.zero_add] at h1
  have h0 : cntB f 0 = 0 := rfl
  generalize cntB f 64 = c at *
  simp only [listF, initEv, List.length_append, List.length_map, List.length_range] at h1 ⊢
  omega
theorem sum_try (l : List Opn) : 2 * sumN tryN l ≤ sumN evN l := by
  induction l with
  | nil => simp [sumN]
  | cons o l ih =>
    have : 2 * tryN o ≤ evN o := by
      unfold tryN evN
      by_cases h : o.kind = 8
      · simp [h]
      · simp [h]
    simp only [sumN]; omega
theorem all_try (ls : List (List Opn)) : 2 * allN tryN ls ≤ allN evN ls := by
  induction ls with
  | nil => simp [allN]
  | cons l ls ih => have := sum_try l; simp only [allN]; omega

/-- Within a thread the numbers of instructions rise. -/
def UpE (a b : Ev) : Prop := a.thread = b.thread → a.thread ≠ -1 → a.index ≤ b.index
theorem opEv_at (f : BitVec 64) (i n : Nat) (o : Opn) (t : Nat) : ∀ e ∈ (opEv f i n o t).1, e.thread = (i : Int) ∧ e.index = (n : Int) := by
  intro e he
  unfold opEv at he
  split at he
  · simp at he; subst he; exact ⟨rfl, rfl⟩
  split at he
  · simp at he; subst he; exact ⟨rfl, rfl⟩
  split at he
  · simp at he; subst he; exact ⟨rfl, rfl⟩
  split at he
  · simp at he; rcases he with rfl | rfl <;> exact ⟨rfl, rfl⟩
  split at he
  · split at he
    · simp at he; subst he; exact ⟨rfl, rfl⟩
    · simp at he; rcases he with rfl | rfl <;> exact ⟨rfl, rfl⟩
  · simp at he
theorem thrEv_at (f : BitVec 64) (i : Nat) : ∀ (l : List Opn) (n t : Nat), (∀ e ∈ (thrEv f i l n t).1, e.thread = (i : Int) ∧ (n : Int) ≤ e.index) ∧ (thrEv f i l n t).1.Pairwise UpE
  | [], n, t => by simp [thrEv]
  | o :: l, n, t => by
    have h1 := opEv_at f i n o t
    obtain ⟨g1, g2⟩ := thrEv_at f i l (n + 1) (opEv f i n o t).2
    refine ⟨fun e he => ?_, ?_⟩
    · simp only [thrEv, List.mem_append] at he
      rcases he with he | he
      · obtain ⟨q1, q2⟩ := h1 e he; exact ⟨q1, by omega⟩
      · obtain ⟨q1, q2⟩ := g1 e he; exact ⟨q1, by omega⟩
    · simp only [thrEv]
      refine List.pairwise_append.2 ⟨?_, g2, fun a ha b hb _ _ => ?_⟩
      · exact List.Pairwise.imp_of_mem (R := fun _ _ => True) (fun ha hb _ _ _ => by rw [(h1 _ ha).2, (h1 _ hb).2]; exact Int.le_refl _) (by induction (opEv f i n o t).1 with | nil => exact .nil | cons a l ih => exact .cons (fun _ _ => trivial) ih)
      · obtain ⟨_, q2⟩ := h1 a ha
        obtain ⟨_, q4⟩ := g1 b hb
        omega
theorem allEv_at (f : BitVec 64) : ∀ (ls : List (List Opn)) (i t : Nat), (∀ e ∈ (allEv f ls i t).1, (i : Int) ≤ e.thread) ∧ (allEv f ls i t).1.Pairwise UpE
  | [], i, t => by simp [allEv]
  | l :: ls, i, t => by
    obtain ⟨h1, h2⟩ := thrEv_at f i l 0 t
    obtain ⟨g1, g2⟩ := allEv_at f ls (i + 1) (thrEv f i l 0 t).2
    refine ⟨fun e he => ?_, ?_⟩
    · simp only [allEv, List.mem_append] at he
      rcases he with he | he
      · obtain ⟨q1, q2⟩ := h1 e he; omega
      · have := g1 e he; omega
    · simp only [allEv]
      refine List.pairwise_append.2 ⟨h2, g2, fun a ha b hb hab _ => ?_⟩
      have q1 := (h1 a ha).1
      have q2 := g1 b hb
      omega
theorem listF_up (k : Nat) (ths : List (List Opn)) (f : BitVec 64) : (listF k ths f).Pairwise UpE := by
  obtain ⟨g1, g2⟩ := allEv_at f ths 0 0
  refine List.pairwise_append.2 ⟨?_, g2, fun a ha b hb hab hne => ?_⟩
  · unfold initEv
    refine List.pairwise_map.2 ?_
    exact List.Pairwise.imp (R := fun _ _ => True) (fun _ _ h => absurd rfl h) (by induction List.range k with | nil => exact .nil | cons a l ih => exact .cons (fun _ _ => trivial) ih)
  · obtain ⟨j, _, rfl⟩ := List.mem_map.1 ha
    exact absurd rfl hne
theorem listF_idx (k : Nat) (ths : List (List Opn)) (f : BitVec 64) {a b : Nat} (hab : a < b) (hb : b < (listF k ths f).length) (ht : togB (listF k ths f)[a] (listF k ths f)[b] = true) : (listF k ths f)[a].index ≤ (listF k ths f)[b].index := by
  have h := List.pairwise_iff_getElem.1 (listF_up k ths f) a b (by omega) hb hab
  simp only [togB, Bool.and_eq_true, Bool.not_eq_true', decide_eq_true_eq, decide_eq_false_iff_not] at ht
  exact h ht.1 ht.2

/-- The documented example's events. -/
theorem list_ex : listF 1 [[⟨7, 0, 0, 0, 0⟩]] 0#64 = [⟨1, -1, 0, 0, false⟩, ⟨3, 0, 0, 0, true⟩, ⟨2, 0, 0, 0, true⟩] := by rfl
end Go.Proofs.YtehimiadpgbhmaaDoor

/-
  Relations row by row: On, Edges, two, Minus, Inverse, Compose: taken over from the texts of layer 2 by a program of our own (tools/closure.py). Own work.
-/
namespace Go.AM
/-- All pairs from one set to another. -/
def crossL (n : Int) (from_ to : BitVec 64) : Rl :=
  if n < 0 ∨ n > 64 then Rl.void 0 else Rl.by_ n fun i => if (i : Int) < n ∧ from_.getLsbD i then to &&& mask n else 0#64

/-- Its beginning. -/
def crossP (n : Int) (from_ to : BitVec 64) (k : Nat) : Rl := Rl.by_ n fun i => if i < k ∧ from_.getLsbD i then to &&& mask n else 0#64

theorem crossP_end {n : Int} {from_ to : BitVec 64} {k : Nat} (h0 : ¬ n < 0) (h1 : ¬ n > 64) (h : (k : Int) = n) : crossP n from_ to k = crossL n from_ to := by
  rw [crossL, if_neg (by omega), crossP]
  exact Rl.by_congr fun i _ => by
    have : (i < k ∧ from_.getLsbD i = true) ↔ ((i : Int) < n ∧ from_.getLsbD i = true) := by
      constructor <;> rintro ⟨h2, h3⟩ <;> exact ⟨by omega, h3⟩
    simp only [this]

theorem crossP_yes {n : Int} {from_ to : BitVec 64} {k : Nat} (h : from_.getLsbD k = true) : (crossP n from_ to k).setRow k (to &&& mask n) = crossP n from_ to (k + 1) := by
  rw [crossP, Rl.set_by, crossP]
  exact Rl.by_congr fun i _ => by
    by_cases e : k = i
    · subst e; simp [h]
    · have : (i < k + 1) ↔ i < k := by omega
      simp only [this, e, if_false]

theorem crossP_no {n : Int} {from_ to : BitVec 64} {k : Nat} (h : ¬ from_.getLsbD k = true) : crossP n from_ to k = crossP n from_ to (k + 1) := by
  rw [crossP, crossP]
  exact Rl.by_congr fun i _ => by
    by_cases e : k = i
    · subst e; simp [h]
    · have : (i < k + 1) ↔ i < k := by omega
      simp only [this]

theorem crossP_0 (n : Int) (from_ to : BitVec 64) : crossP n from_ to 0 = Rl.void n := by
  rw [crossP, Rl.void_by]
  exact Rl.by_congr fun i _ => by simp

end Go.AM

namespace Go.Proofs.YtehimiadpgbhmaaDoor
open Go.AM
set_option maxRecDepth 100000

theorem cross_ok (n : Int) (x y : BitVec 64) (w : World) : Gives Tryd.prog 47 [.int .i64 n, .int .u64 (un x), .int .u64 (un y)] w (encRel (crossL n x y)) := by
  refine Gives.of_run Tryd.func47 rfl (by show 3 ≤ 36; decide) ?_
  by_cases h1 : n < 0
  · refine RunF_sound tab_ok noX_local 100 [true, true] _ _ rfl ?_ ?_
    · simp [h1, fillL, Value.cells, segsVals, relV_one']
    · refine Run.retP tab_ok Tryd.func47 rfl ?_ (fun M => ?_)
      · simp [fillL, Value.cells]
      rw [crossL, if_pos (.inl h1)]; rfl
  by_cases h2 : n > 64
  · refine RunF_sound tab_ok noX_local 100 [false, true] _ _ rfl ?_ ?_
    · simp [fillL, Value.cells, segsVals, relV_one']; omega
    · refine Run.retP tab_ok Tryd.func47 rfl ?_ (fun M => ?_)
      · simp [fillL, Value.cells]
      rw [crossL, if_pos (.inr h2)]; rfl
  refine RunF_sound tab_ok noX_local 100 [false, false] _ _ rfl ?_ ?_
  · simp [fillL, Value.cells, segsVals, relV_one']; omega
  suffices H : ∀ (d k : Nat), (k : Int) + d = n → ∀ σ, inT σ.t [(0, .v (.int .i64 n)), (1, .v (.int .u64 (un x))), (2, .v (.int .u64 (un y))), (6, .ptr 0 0), (7, .ptr 1 0), (18, .v (.int .i64 n)), (19, .v (.int .i64 (k : Int)))] →
      inT σ.h [(0, .cells 32 [.vals 65 (relV (Rl.void 0))]), (1, .cells 32 [.vals 65 (relV (crossP n x y k))])] → Run _ _ σ by
    refine H n.toNat 0 (by omega) _ ⟨rfl, rfl, rfl, rfl, rfl, rfl, rfl, trivial⟩ ⟨rfl, ?_, trivial⟩
    rw [crossP_0]
    rfl
  intro d
  induction d with
  | zero =>
    intro k hk σ ht hh
    refine Run.to ?_ ht hh (n' := 2)
    refine RunF_sound tab_ok noX_local 100 [false] _ _ rfl ?_ ?_
    · simp [relV_one', segsVals]; omega
    · refine Run.retP tab_ok Tryd.func47 rfl ?_ (fun M => ?_)
      · simp
      rw [← crossP_end h1 h2 (k := k) (by omega)]; rfl
  | succ d ih =>
    intro k hk σ ht hh
    refine Run.to ?_ ht hh (n' := 2)
    have hk' : k < 64 := by omega
    by_cases c : x.getLsbD k = true
    · have c' := (bit_iff x k).2 c
      refine RunF_sound tab_ok noX_local 100 [true, true] _ _ rfl ?_ ?_
      · simp [band1_un, c']; omega
      refine Run.callFn noX_local rfl rfl rfl rfl rfl rfl rfl whole_enters rfl (fun w' _ => whole_ok n w' (by omega)) ?_
      refine RunF_sound tab_ok noX_local 100 [] _ _ rfl ?_ ?_
      · simp [okCell, Value.oneCell']; omega
      refine ih (k + 1) (by omega) _ ⟨rfl, rfl, rfl, rfl, rfl, rfl, i64_eq (wrap_succ (by omega)), trivial⟩ ⟨rfl, congrArg (fun l => some (Blk.cells 32 [.vals 65 l])) ?_, trivial⟩
      rw [band_un]
      simp [relV_set _ _ hk', crossP_yes c]
    · have c' : ¬ (x >>> k &&& 1#64) = 1#64 := fun h => c ((bit_iff x k).1 h)
      refine RunF_sound tab_ok noX_local 100 [true, false] _ _ rfl ?_ ?_
      · simp [band1_un, c']; omega
      exact ih (k + 1) (by omega) _ ⟨rfl, rfl, rfl, rfl, rfl, rfl, i64_eq (wrap_succ (by omega)), trivial⟩ ⟨rfl, by rw [← crossP_no c]; rfl, trivial⟩

theorem cross_enters : Enters Tryd.prog 47 := enters_mk Tryd.func47 (by decide) rfl

/-- Each number of a set to itself. -/
def onP (n : Int) (s : BitVec 64) (k : Nat) : Rl := Rl.by_ n fun i => if (i : Int) < n ∧ s.getLsbD i then (if i < k then 1#64 <<< i else s &&& mask n) else 0#64

def onL (n : Int) (s : BitVec 64) : Rl := if n < 0 ∨ n > 64 then Rl.void 0 else Rl.by_ n fun i => if (i : Int) < n ∧ s.getLsbD i then 1#64 <<< i else 0#64

theorem onP_0 {n : Int} {s : BitVec 64} (h0 : ¬ n < 0) (h1 : ¬ n > 64) : crossL n s s = onP n s 0 := by
  rw [crossL, if_neg (by omega), onP]
  exact Rl.by_congr fun i _ => by simp

theorem onP_end {n : Int} {s : BitVec 64} {k : Nat} (h0 : ¬ n < 0) (h1 : ¬ n > 64) (h : (k : Int) = n) : onP n s k = onL n s := by
  rw [onL, if_neg (by omega), onP]
  refine Rl.by_congr fun i _ => ?_
  by_cases c : (i : Int) < n ∧ s.getLsbD i = true
  · rw [if_pos c, if_pos c, if_pos (by omega)]
  · rw [if_neg c, if_neg c]

theorem and_bit (x : BitVec 64) (i : Nat) (h : i < 64) (hx : x.getLsbD i = true) : x &&& 1#64 <<< i = 1#64 <<< i := by
  apply BitVec.eq_of_getLsbD_eq
  intro j hj
  simp only [BitVec.getLsbD_and, BitVec.getLsbD_shiftLeft, BitVec.getLsbD_one]
  by_cases e : j = i
  · subst e; simp [hx]
  · by_cases hlt : j < i
    · simp [hlt]
    · have : ¬ (j - i = 0) := by omega
      simp [this]

theorem onP_row {n : Int} {s : BitVec 64} {k : Nat} (hk : k < 64) : (onP n s k).row k = if (k : Int) < n ∧ s.getLsbD k then s &&& mask n else 0#64 := by
  rw [onP, Rl.row_by, if_pos hk]
  simp

theorem onP_step {n : Int} {s : BitVec 64} {k : Nat} (hk : k < 64) (h0 : (k : Int) < n) : (onP n s k).setRow k ((onP n s k).row k &&& 1#64 <<< k) = onP n s (k + 1) := by
  rw [onP_row hk, onP, Rl.set_by, onP]
  refine Rl.by_congr fun i hi => ?_
  by_cases e : k = i
  · subst e
    by_cases c : s.getLsbD k = true
    · rw [if_pos rfl, if_pos ⟨h0, c⟩, if_pos ⟨h0, c⟩, if_pos (Nat.lt_succ_self _)]
      refine and_bit _ _ hk ?_
      rw [BitVec.getLsbD_and, c, mask_get n k (by omega)]
      simp; omega
    · simp [c]
  · have : (i < k + 1) ↔ i < k := by omega
    simp only [this, e, if_false]

theorem crossL_bad {n : Int} {x y : BitVec 64} (h : n < 0 ∨ n > 64) : crossL n x y = Rl.void 0 := by rw [crossL, if_pos h]

theorem on_ok (n : Int) (x : BitVec 64) (w : World) : Gives Tryd.prog 28 [.int .i64 n, .int .u64 (un x)] w (encRel (onL n x)) := by
  refine Gives.of_run Tryd.func28 rfl (by show 2 ≤ 27; decide) ?_
  refine RunF_sound tab_ok noX_local 100 [] _ _ rfl ?_ ?_
  · simp
  refine Run.callFn noX_local rfl rfl rfl rfl rfl rfl rfl cross_enters rfl (fun w' _ => cross_ok n x x w') ?_
  by_cases hb : n < 0 ∨ n > 64
  · rw [crossL_bad hb]
    refine RunF_sound tab_ok noX_local 100 [] _ _ rfl ?_ ?_
    · simp [segsVals, relV_one']
    refine RunF_sound tab_ok noX_local 100 [false] _ _ rfl ?_ ?_
    · simp [segsVals, relV_one', Rl.void]
    · refine Run.retP tab_ok Tryd.func28 rfl ?_ (fun M => ?_)
      · simp
      rw [onL, if_pos hb]; rfl
  have h1 : ¬ n < 0 := by omega
  have h2 : ¬ n > 64 := by omega
  rw [onP_0 h1 h2]
  refine RunF_sound tab_ok noX_local 100 [] _ _ rfl ?_ ?_
  · simp [segsVals, relV_one']
  suffices H : ∀ (d k : Nat), (k : Int) + d = n → ∀ σ, inT σ.t [(4, .ptr 0 0), (5, .ptr 1 0), (12, .v (.int .i64 n)), (13, .v (.int .i64 (k : Int)))] →
      inT σ.h [(0, .cells 32 [.vals 65 (relV (Rl.void 0))]), (1, .cells 32 [.vals 65 (relV (onP n x k))])] → Run _ _ σ by
    exact H n.toNat 0 (by omega) _ ⟨rfl, rfl, rfl, rfl, trivial⟩ ⟨rfl, rfl, trivial⟩
  intro d
  induction d with
  | zero =>
    intro k hk σ ht hh
    refine Run.to ?_ ht hh (n' := 2)
    refine RunF_sound tab_ok noX_local 100 [false] _ _ rfl ?_ ?_
    · simp [relV_one', segsVals]; omega
    · refine Run.retP tab_ok Tryd.func28 rfl ?_ (fun M => ?_)
      · simp
      rw [← onP_end h1 h2 (k := k) (by omega)]; rfl
  | succ d ih =>
    intro k hk σ ht hh
    refine Run.to ?_ ht hh (n' := 2)
    have hk' : k < 64 := by omega
    refine RunF_sound tab_ok noX_local 100 [true] _ _ rfl ?_ ?_
    · simp; omega
    refine Run.drawA noX_local rfl [3] [] rfl rfl trivial ?_
    refine RunOF_sound tab_ok noX_local rfl rfl 100 [] _ _ rfl ?_ ?_
    · simp [relV_get _ _ hk', intAt_row _ _ hk', okCell, Value.oneCell', inT]; omega
    refine RunO.done ?_
    refine RunF_sound tab_ok noX_local 100 [] _ _ rfl ?_ ?_
    · simp
    refine ih (k + 1) (by omega) _ ⟨rfl, rfl, rfl, i64_eq (wrap_succ (by omega)), trivial⟩ ⟨rfl, congrArg (fun l => some (Blk.cells 32 [.vals 65 l])) ?_, trivial⟩
    simp [intAt_row _ _ hk', shl1_un, relV_set _ _ hk', onP_step hk' (show (k : Int) < n by omega)]

theorem on_enters : Enters Tryd.prog 28 := enters_mk Tryd.func28 (by decide) rfl

/-- A slice of pairs, as it lies in a world. -/
def SeesE (w : World) (p : Option Addr) (xs : List (Int × Int)) : Prop :=
  ∀ i (h : i < xs.length), p = some (p.getD default) ∧ extCells w ((p.getD default).add (i * 2)) 0 2 = [.int .i64 xs[i].1, .int .i64 xs[i].2] ∧ ∀ j, j < 2 → (w.cell? (((p.getD default).add (i * 2)).add j)).isSome

theorem SeesE.agree {S : Nat → Prop} {w w' : World} {p : Option Addr} {xs : List (Int × Int)} (h : SeesE w p xs) (hA : Agree S w w') (hS : ∀ a, p = some a → ¬ S a.block) : SeesE w' p xs := by
  intro i hi
  obtain ⟨h1, h2, h3⟩ := h i hi
  have hb : ∀ j, w'.cell? (((p.getD default).add (i * 2)).add j) = w.cell? (((p.getD default).add (i * 2)).add j) ∨ w.cell? (((p.getD default).add (i * 2)).add j) = none := by
    intro j
    cases hc : w.cell? (((p.getD default).add (i * 2)).add j) with
    | none => exact .inr rfl
    | some x => exact .inl (hA.cell hc (by rw [add_block, add_block]; exact hS _ h1))
  have hs : ∀ j, j < 2 → w'.cell? (((p.getD default).add (i * 2)).add j) = w.cell? (((p.getD default).add (i * 2)).add j) := by
    intro j hj
    rcases hb j with h | h
    · exact h
    · have := h3 j hj; rw [h] at this; cases this
  refine ⟨h1, ?_, fun j hj => by rw [hs j hj]; exact h3 j hj⟩
  rw [← h2]
  simp only [extCells, hs 0 (by omega), hs (0 + 1) (by omega)]

@[simp] theorem intAt_p0 (a b : Int) : intAt [.int .i64 a, .int .i64 b] 0 = a := rfl

@[simp] theorem intAt_p1 (a b : Int) : intAt [.int .i64 a, .int .i64 b] 1 = b := rfl

@[simp] theorem one_int (k : IntKind) (n : Int) : (Value.int k n).oneCell' = true := rfl

@[simp] theorem zedge : z83 = [.int .i64 0, .int .i64 0] := rfl

/-- The table of math/bits as its initialiser lays it. -/
def TabAt (w : World) : Prop := ∀ j, j < 64 → w.cell? ⟨0, j, none⟩ = some (.int .u8 ((Go.Lib.deBruijn64tab.getD j 0 : Nat) : Int))

theorem TabAt.agree {S : Nat → Prop} {w w' : World} (h : TabAt w) (hA : Agree S w w') (hS : ¬ S 0) : TabAt w' := fun j hj => hA.cell (h j hj) hS

def tzI (x : BitVec 64) : Int := if x = 0#64 then 64 else (tz x : Int)

theorem neg_un (x : BitVec 64) : IntKind.u64.wrap (0 - un x) = un (-x) := by
  have := sub_un 0#64 x
  rw [show un 0#64 - un x = 0 - un x by simp [un]] at this
  rw [this]; simp

theorem low_bit (x : BitVec 64) (h : x ≠ 0#64) : x &&& -x = 1#64 <<< tz x := by
  have h0 : x.toNat ≠ 0 := fun e => h (BitVec.eq_of_toNat_eq (by simpa using e))
  obtain ⟨h1, h2⟩ := Go.Lib.lowest_bit 64 x.toNat h0 x.isLt
  have hk := tz_lt x h
  apply BitVec.eq_of_toNat_eq
  rw [BitVec.toNat_and, BitVec.toNat_neg, BitVec.toNat_shiftLeft]
  have h3 : (1#64).toNat = 1 := rfl
  rw [h3, Nat.shiftLeft_eq, Nat.one_mul, Nat.mod_eq_of_lt (show 2 ^ 64 - x.toNat < 2 ^ 64 by omega), h1]
  show 2 ^ tz x = _
  rw [Nat.mod_eq_of_lt (Nat.pow_lt_pow_right (by decide) hk)]

theorem tz_key (x : BitVec 64) (h : x ≠ 0#64) : ∃ idx : Nat, idx < 64 ∧ Go.Lib.deBruijn64tab.getD idx 0 = tz x ∧
    shrI .u64 (IntKind.u64.wrap (band .u64 (un x) (IntKind.u64.wrap (0 - un x)) * 285870213051353865)) 58 = (idx : Int) := by
  have hk := tz_lt x h
  obtain ⟨hi, htab⟩ := Go.Lib.deBruijn64_at (tz x) hk
  refine ⟨_, hi, htab, ?_⟩
  rw [neg_un, band_un, low_bit x h, show (285870213051353865 : Int) = un 285870213051353865#64 from rfl, mul_un, shr_un]
  unfold un
  rw [BitVec.toNat_ushiftRight, Nat.shiftRight_eq_div_pow, BitVec.toNat_mul, BitVec.toNat_shiftLeft, Nat.shiftLeft_eq]
  simp only [BitVec.toNat_ofNat, Nat.reducePow, Nat.reduceMod, Nat.one_mul, show Int.toNat 58 = 58 from rfl]
  have e : 2 ^ tz x % 18446744073709551616 = 2 ^ tz x := Nat.mod_eq_of_lt (by have := Nat.pow_lt_pow_right (a := 2) (by decide) hk; simpa using this)
  rw [e]

theorem tz_ok0 (w : World) : Gives Tryd.prog 54 [.int .u64 (un 0#64)] w (.int .i64 64) := by
  refine Gives.of_run Tryd.func54 rfl (by show 1 ≤ 14; decide) ?_
  refine RunF_sound tab_ok noX_local 100 [true] _ _ rfl ?_ ?_
  · simp [un]
  · exact Run.retP tab_ok Tryd.func54 rfl trivial (fun M => rfl)

theorem addr_idx (idx : Nat) : (⟨0, 0, none⟩ : Addr).add ((idx : Int).toNat * 1) = ⟨0, idx, none⟩ := by rw [add_lit']; simp

theorem tz_okp (y : Int) (idx : Nat) (k : Nat) (hy : y ≠ 0) (hi : idx < 64) (hk : k < 64) (w : World) (hc : w.cell? ⟨0, idx, none⟩ = some (.int .u8 (k : Int)))
    (key : shrI .u64 (IntKind.u64.wrap (band .u64 y (IntKind.u64.wrap (0 - y)) * 285870213051353865)) 58 = (idx : Int)) :
    Gives Tryd.prog 54 [.int .u64 y] w (.int .i64 (k : Int)) := by
  refine Gives.of_run Tryd.func54 rfl (by show 1 ≤ 14; decide) ?_
  refine RunF_sound tab_ok noX_local 100 [false] _ _ rfl ?_ ?_
  · rw [key, addr_idx, fnC_w0, hc]
    simp [hy]
    omega
  · rw [key, addr_idx, fnC_w0, hc]
    refine Run.retP tab_ok Tryd.func54 rfl trivial (fun M => ?_)
    simp only []
    rw [wrap_i64 (by omega) (by omega)]
    rfl

theorem tz_ok (x : BitVec 64) (w : World) (hT : TabAt w) : Gives Tryd.prog 54 [.int .u64 (un x)] w (.int .i64 (tzI x)) := by
  by_cases h : x = 0#64
  · subst h
    exact tz_ok0 w
  · obtain ⟨idx, hi, htab, key⟩ := tz_key x h
    have hc := hT idx hi
    rw [htab] at hc
    have := tz_okp (un x) idx (tz x) (by simpa using h) hi (tz_lt x h) w hc key
    rw [tzI, if_neg h]; exact this

theorem tz_enters : Enters Tryd.prog 54 := enters_mk Tryd.func54 (by decide) rfl

/-- The pairs from a number on. -/
def restL (r : Rl) : Nat → Nat → List (Int × Int)
  | _, 0 => []
  | i, d + 1 => (bitsL (r.row i)).map (fun b : Nat => ((i : Int), (b : Int))) ++ restL r (i + 1) d

/-- The pairs of a right relation, in order. -/
def edgesL (r : Rl) : List (Int × Int) := restL r 0 r.n.toNat

/-- A relation that lies whole in a block. -/
def RelAt (w : World) (b : Nat) (r : Rl) : Prop := ∀ q x, (relV r)[q]? = some x → w.cell? ⟨b, q, none⟩ = some x

def encEd (e : Int × Int) : List Value := [.agg #[.int .i64 e.1, .int .i64 e.2]]

/-- What an iterator over pairs hands over. -/
def encEs (l : List (Int × Int)) : List (List Value) := l.map encEd

/-- The iterator's blocks: the table's, the relation's. -/
def edgesK (b : Nat) : Nat → Prop := fun k => k = 0 ∨ k = b

theorem RelAt.agree {S : Nat → Prop} {w w' : World} {b : Nat} {r : Rl} (h : RelAt w b r) (hA : Agree S w w') (hS : ¬ S b) : RelAt w' b r := fun q x hq => hA.cell (h q x hq) hS

theorem bits_restL (r : Rl) (i d : Nat) (y : BitVec 64) (hy : y ≠ 0#64) (tail : List (Int × Int)) :
    (bitsL y).map (fun b : Nat => ((i : Int), (b : Int))) ++ tail = ((i : Int), (tz y : Int)) :: ((bitsL (dropLow y)).map (fun b : Nat => ((i : Int), (b : Int))) ++ tail) := by
  rw [bitsL_cons y hy]; rfl

theorem edges_iter (r : Rl) (hn : 0 ≤ r.n ∧ r.n ≤ 64) (b : Nat) (w0 : World) (hb : RelAt w0 b r) (hT : TabAt w0) :
    Iter Tryd.prog 53 [.pointer (some ⟨b, 0, none⟩)] (edgesK b) w0 (encEs (edgesL r)) := by
  refine Iter.of_run Tryd.func53 rfl (by show 2 ≤ 28; decide) ?_
  intro y J Js w fp hJ hJs hy hag hfp R hR
  have hbw : RelAt w b r := hb.agree hag (fun h => h (.inr rfl))
  have hTw : TabAt w := hT.agree hag (fun h => h (.inl rfl))
  have hf0 : ¬ fp 0 := fun h => hfp 0 h (.inl rfl)
  have hfb : ¬ fp b := fun h => hfp b h (.inr rfl)
  have c0 : w.cell? ⟨b, 0, none⟩ = some (.int .i64 r.n) := hbw 0 _ rfl
  have hres : (Tryd.f53).results = #[] := rfl
  refine RunF_sound tab_ok (hJ []) 100 [] _ _ rfl ?_ ?_
  · simp only [fnC_w0, fnC_S0, add_lit', Nat.zero_add, c0]
    simp [hfb]
  simp only [fnC_w0, add_lit', Nat.zero_add, c0]
  -- the outer loop
  suffices H : ∀ (d i : Nat) (pre : List (List Value)), (i : Int) + d = r.n → pre ++ encEs (restL r i d) = encEs (edgesL r) →
      ∀ σ, inT σ.t [(0, .v y), (1, .v (.pointer (some ⟨b, 0, none⟩))), (6, .v (.int .i64 r.n)), (7, .v (.int .i64 (i : Int)))] → inT σ.h [] →
        Run (fnC Tryd.prog 53 (Tryd.f53).ntmps w fp (J pre) R) _ σ by
    exact H r.n.toNat 0 [] (by omega) rfl _ ⟨rfl, rfl, rfl, rfl, trivial⟩ trivial
  intro d
  induction d with
  | zero =>
    intro i pre hi hp σ ht hh
    refine Run.to ?_ ht hh (n' := 0)
    refine RunF_sound tab_ok (hJ pre) 100 [false] _ _ rfl ?_ ?_
    · simp; omega
    · refine Run.finI Tryd.func53 hres fun v w' fp' hg hX => hR v w' fp' pre hg (.inl ⟨?_, hX⟩)
      simpa [restL, encEs] using hp
  | succ d ih =>
    intro i pre hi hp σ ht hh
    refine Run.to ?_ ht hh (n' := 0)
    have hi' : i < 64 := by omega
    have c1 : w.cell? ⟨b, 1 + i, none⟩ = some (.int .u64 (un (r.row i))) := hbw _ _ (relV_get r i hi')
    refine RunF_sound tab_ok (hJ pre) 100 [true] _ _ rfl ?_ ?_
    · simp only [fnC_w0, fnC_S0, add_lit', Nat.zero_add, Int.toNat_natCast, Nat.mul_one, c1]
      simp [hfb]; omega
    simp only [fnC_w0, add_lit', Nat.zero_add, Int.toNat_natCast, Nat.mul_one, c1]
    -- the inner loop
    suffices H2 : ∀ (m : Nat) (x : BitVec 64) (pre : List (List Value)), (bitsL x).length = m → pre ++ encEs ((bitsL x).map (fun b : Nat => ((i : Int), (b : Int))) ++ restL r (i + 1) d) = encEs (edgesL r) →
        ∀ σ, inT σ.t [(0, .v y), (1, .v (.pointer (some ⟨b, 0, none⟩))), (6, .v (.int .i64 r.n)), (7, .v (.int .i64 (i : Int))), (3, .v (.int .i64 (i : Int))), (4, .v (.int .u64 (un x)))] → inT σ.h [] →
          Run (fnC Tryd.prog 53 (Tryd.f53).ntmps w fp (J pre) R) _ σ by
      exact H2 _ (r.row i) pre rfl hp _ ⟨rfl, rfl, rfl, rfl, rfl, rfl, trivial⟩ trivial
    intro m
    induction m with
    | zero =>
      intro x pre hm hp σ ht hh
      refine Run.to ?_ ht hh (n' := 0)
      have hx : x = 0#64 := by
        by_cases h : x = 0#64
        · exact h
        · rw [bitsL_cons x h] at hm; cases hm
      refine RunF_sound tab_ok (hJ pre) 100 [false] _ _ rfl ?_ ?_
      · simp [hx]
      refine ih (i + 1) pre (by omega) ?_ _ ⟨rfl, rfl, rfl, i64_eq (wrap_succ (by omega)), trivial⟩ trivial
      have : bitsL x = [] := List.length_eq_zero_iff.1 hm
      rw [this] at hp; exact hp
    | succ m ihm =>
      intro x pre hm hp σ ht hh
      refine Run.to ?_ ht hh (n' := 0)
      have hx : x ≠ 0#64 := fun h => by rw [h, bitsL_zero] at hm; cases hm
      refine RunF_sound tab_ok (hJ pre) 100 [true] _ _ rfl ?_ ?_
      · simp [hx]
      refine Run.callFn (hJ pre) rfl rfl rfl rfl rfl rfl rfl tz_enters rfl (fun w' hw' => tz_ok x w' (hTw.agree hw' hf0)) ?_
      have htz : tzI x = (tz x : Int) := by rw [tzI, if_neg hx]
      rw [bits_restL r i d x hx] at hp
      have hp' : (pre ++ [encEd ((i : Int), (tz x : Int))]) ++ encEs ((bitsL (dropLow x)).map (fun b : Nat => ((i : Int), (b : Int))) ++ restL r (i + 1) d) = encEs (edgesL r) := by
        rw [← hp]; simp [encEs]
      have hpx : pre ++ [encEd ((i : Int), (tz x : Int))] <+: encEs (edgesL r) := ⟨_, hp'⟩
      refine RunF_sound tab_ok (hJ pre) 100 [] _ _ rfl ?_ ?_
      · simp [fillL, Value.cells, splice]
      refine Run.yield (J := J) (Js := Js) rfl (hy pre _ hpx) rfl rfl rfl rfl rfl ?_ rfl rfl ?_ ?_
      · rw [htz]; rfl
      · refine RunF_sound tab_ok (hJ _) 100 [false] _ _ rfl ?_ ?_
        · simp
        refine ihm (dropLow x) _ ?_ hp' _ ⟨rfl, rfl, rfl, rfl, rfl, ?_, trivial⟩ trivial
        · rw [bitsL_cons x hx] at hm; simpa using hm
        · refine u64_eq ?_
          rw [sub1_un, band_un]; rfl
      · refine RunF_sound tab_ok (hJs _) 100 [true] _ _ rfl ?_ ?_
        · simp
        exact Run.retI Tryd.func53 hres fun v w' fp' hg hX => hR v w' fp' _ hg (.inr ⟨hpx, hX⟩)

theorem edgesIt_enters : Enters Tryd.prog 53 := enters_mk Tryd.func53 (by decide) rfl

/-- The iterator over a relation's pairs, as a value. -/
def edgesF (b : Nat) : Value := .func (.func 53) #[] #[.pointer (some ⟨b, 0, none⟩)]

theorem edges_ok (r : Rl) (w : World) : Makes Tryd.prog 45 [encRel r] w (fun v w' => ∃ b, v = edgesF b ∧ w.heap.size ≤ b ∧ RelAt w' b (rightL r)) := by
  refine Makes.of_run Tryd.func45 rfl (by show 1 ≤ 6; decide) ?_
  refine RunF_sound tab_ok noX_local 100 [] _ _ rfl ?_ ?_
  · simp
  refine Run.callFn noX_local rfl rfl rfl rfl rfl rfl rfl right_enters rfl (fun w' _ => right_ok r w') ?_
  refine RunF_sound tab_ok noX_local 100 [] _ _ rfl ?_ ?_
  · simp [segsVals, relV_one']
  refine Run.ret tab_ok Tryd.func45 rfl trivial fun M fp a w' hr => ⟨hr.agree, (M 0).1, rfl, ?_, ?_⟩
  · rcases Nat.lt_or_ge (M 0).1 w.heap.size with h | h
    · exact (hr.own 0 _ rfl h).elim
    · exact h
  · intro q x hq
    have hb : BlkAt M w' 0 (.cells 32 [.vals 65 (relV (rightL r))]) := hr.heap 0 _ rfl
    have := vals_cells hb (off := 0) (s0 := 0) rfl q x hq
    rwa [Nat.zero_add] at this

theorem edges_enters : Enters Tryd.prog 45 := enters_mk Tryd.func45 (by decide) rfl

/-! ### The reference's -/

theorem encEs_next {E : List (Int × Int)} {k : Nat} (hk : k ≤ E.length) {x : List Value} (h : encEs (E.take k) ++ [x] <+: encEs E) : ∃ hlt : k < E.length, x = encEd E[k] := by
  have hl := h.length_le
  simp only [encEs, List.length_append, List.length_map, List.length_take, List.length_singleton] at hl
  have hlt : k < E.length := by omega
  refine ⟨hlt, ?_⟩
  obtain ⟨t, ht⟩ := h
  have := congrArg (fun l => l[k]?) ht
  simp only [encEs] at this
  rw [List.append_assoc, List.getElem?_append_right (by simp; omega)] at this
  simp [Nat.min_eq_left hk, hlt] at this
  exact this

theorem encEs_succ {E : List (Int × Int)} {k : Nat} (hlt : k < E.length) : encEs (E.take k) ++ [encEd E[k]] = encEs (E.take (k + 1)) := by
  rw [List.take_succ_eq_append_getElem hlt, encEs, encEs, List.map_append]; rfl

theorem encEs_all {E : List (Int × Int)} {k : Nat} (hk : k ≤ E.length) (h : encEs E = encEs (E.take k)) : k = E.length := by
  have := congrArg List.length h
  simp only [encEs, List.length_map, List.length_take] at this
  omega

open Classical in
/-- Two relations over the same numbers, or two void ones. -/
noncomputable def twoL (r s : Rl) : Rl × Rl := if (rightL r).n = (rightL s).n then (rightL r, rightL s) else (Rl.void 0, Rl.void 0)

theorem rightL_void : rightL (Rl.void 0) = Rl.void 0 := by
  refine rightL_of _ ?_
  unfold checkI
  rw [if_neg (by simp [Rl.void]), if_pos good_void]

theorem twoL_n (r s : Rl) : (twoL r s).1.n = (twoL r s).2.n := by
  unfold twoL; split
  · assumption
  · rfl

theorem twoL_right (r s : Rl) : rightL (twoL r s).1 = (twoL r s).1 ∧ rightL (twoL r s).2 = (twoL r s).2 := by
  unfold twoL; split
  · exact ⟨rightL_idem _, rightL_idem _⟩
  · exact ⟨rightL_void, rightL_void⟩

theorem two_ok (r s : Rl) (w : World) : Gives Tryd.prog 44 [encRel r, encRel s] w (.tuple #[encRel (twoL r s).1, encRel (twoL r s).2]) := by
  refine Gives.of_run Tryd.func44 rfl (by show 2 ≤ 19; decide) ?_
  refine RunF_sound tab_ok noX_local 100 [] _ _ rfl ?_ ?_
  · simp
  refine Run.drawA noX_local rfl [0] [(1, .cells 32 [.vals 65 (relV s)])] rfl rfl ⟨rfl, trivial⟩ ?_
  refine RunOF_sound tab_ok noX_local rfl rfl 200 [] _ _ rfl ?_ ?_
  · simp
  refine RunO.callFn noX_local rfl rfl rfl rfl rfl rfl rfl rfl right_enters rfl (fun w' _ => right_ok r w') ?_
  refine RunO.callFn noX_local rfl rfl rfl rfl rfl rfl rfl rfl right_enters rfl (fun w' _ => right_ok s w') ?_
  refine RunOF_sound tab_ok noX_local rfl rfl 1 [] _ _ rfl ?_ ?_
  · simp [segsVals, relV_one', inT, lk]
  refine RunO.effLast tab_ok noX_local rfl rfl rfl rfl ?_ (fun e => by cases e) rfl ?_
  · simp [segsVals, relV_one']
  by_cases h : (rightL r).n = (rightL s).n
  · have e : twoL r s = (rightL r, rightL s) := by unfold twoL; rw [if_pos h]
    rw [e]
    refine RunF_sound tab_ok noX_local 100 [false] _ _ rfl ?_ ?_
    · simp [h]
    refine Run.drawA noX_local rfl [] [(1, .cells 32 [.vals 65 (relV (rightL s))]), (0, .cells 32 [.vals 65 (relV (rightL r))])] rfl rfl ⟨rfl, rfl, trivial⟩ ?_
    refine RunOF_sound tab_ok noX_local rfl rfl 200 [] _ _ rfl ?_ ?_
    · simp [segsVals, relV_one', inT, lk]
    refine RunO.done ?_
    refine RunF_sound tab_ok noX_local 100 [] _ _ rfl ?_ ?_
    · simp
    refine Run.retL tab_ok Tryd.func44 rfl ?_ (fun M => rfl)
    simp
  · have e : twoL r s = (Rl.void 0, Rl.void 0) := by unfold twoL; rw [if_neg h]
    rw [e]
    refine RunF_sound tab_ok noX_local 100 [true] _ _ rfl ?_ ?_
    · simp [fillL, Value.cells, segsVals, relV_one', h]
    refine Run.retL tab_ok Tryd.func44 rfl ?_ (fun M => ?_)
    · simp [fillL, Value.cells]
    · rfl

theorem two_enters : Enters Tryd.prog 44 := enters_mk Tryd.func44 (by decide) rfl

def rowP (F : BitVec 64 → BitVec 64 → BitVec 64) (r s : Rl) (k : Nat) : Rl := Rl.by_ r.n fun i => if i < k then F (r.row i) (s.row i) else r.row i

theorem rowP_0 (F : BitVec 64 → BitVec 64 → BitVec 64) (r s : Rl) : rowP F r s 0 = r := by
  unfold rowP
  conv => rhs; rw [← by_row r]
  exact Rl.by_congr fun i _ => by simp

theorem rowP_row (F : BitVec 64 → BitVec 64 → BitVec 64) (r s : Rl) (k : Nat) (hk : k < 64) : (rowP F r s k).row k = r.row k := by
  rw [rowP, Rl.row_by, if_pos hk, if_neg (by omega)]

theorem rowP_step (F : BitVec 64 → BitVec 64 → BitVec 64) (r s : Rl) (k : Nat) : (rowP F r s k).setRow k (F (r.row k) (s.row k)) = rowP F r s (k + 1) := by
  unfold rowP
  rw [Rl.set_by]
  refine Rl.by_congr fun i _ => ?_
  by_cases h : k = i
  · subst h; simp
  · rw [if_neg h]
    have : (i < k) ↔ (i < k + 1) := by omega
    simp only [this]

noncomputable def opL (F : BitVec 64 → BitVec 64 → BitVec 64) (r s : Rl) : Rl := rowP F (twoL r s).1 (twoL r s).2 (twoL r s).1.n.toNat

theorem twoL_b (r s : Rl) : 0 ≤ (twoL r s).1.n ∧ (twoL r s).1.n ≤ 64 := by
  rw [← (twoL_right r s).1]; exact rightL_n _

theorem rowwise_ok (g : FuncId) (F : BitVec 64 → BitVec 64 → BitVec 64) (hent : Enters Tryd.prog g) (hg : ∀ a b w, Gives Tryd.prog g [.int .u64 (un a), .int .u64 (un b)] w (.int .u64 (un (F a b)))) (r s : Rl) (w : World) :
    Gives Tryd.prog 42 [encRel r, encRel s, .func (.func g) #[] #[]] w (encRel (opL F r s)) := by
  refine Gives.of_run Tryd.func42 rfl (by show 3 ≤ 34; decide) ?_
  refine RunF_sound tab_ok noX_local 100 [] _ _ rfl ?_ ?_
  · simp
  refine Run.callFn noX_local rfl rfl rfl rfl rfl rfl rfl two_enters rfl (fun w' _ => two_ok r s w') ?_
  have hn := twoL_b r s
  unfold opL
  generalize (twoL r s).1 = R at hn
  generalize (twoL r s).2 = S at hn
  refine RunF_sound tab_ok noX_local 100 [] _ _ rfl ?_ ?_
  · simp [segsVals, relV_one']
  suffices H : ∀ (d k : Nat), (k : Int) + d = R.n → ∀ σ, inT σ.t [(2, .v (.func (.func g) #[] #[])), (3, .ptr 0 0), (4, .ptr 1 0), (6, .ptr 2 0), (15, .v (.int .i64 R.n)), (16, .v (.int .i64 (k : Int)))] →
      inT σ.h [(0, .cells 32 [.vals 65 (relV (rowP F R S k))]), (1, .cells 32 [.vals 65 (relV S)]), (2, .cells 32 [.vals 65 (relV (Rl.void 0))])] → Run _ _ σ by
    refine H R.n.toNat 0 (by omega) _ ⟨rfl, rfl, rfl, rfl, ?_, rfl, trivial⟩ ⟨?_, ?_, rfl, trivial⟩
    · simp [lk]
    · rw [rowP_0]; simp [lk]
    · simp [lk]
  intro d
  induction d with
  | zero =>
    intro k hk σ ht hh
    refine Run.to ?_ ht hh (n' := 3)
    refine RunF_sound tab_ok noX_local 100 [false] _ _ rfl ?_ ?_
    · simp [relV_one', segsVals]; omega
    · refine Run.retP tab_ok Tryd.func42 rfl ?_ (fun M => ?_)
      · simp
      have : R.n.toNat = k := by omega
      rw [this]; rfl
  | succ d ih =>
    intro k hk σ ht hh
    refine Run.to ?_ ht hh (n' := 3)
    have hk' : k < 64 := by omega
    refine RunF_sound tab_ok noX_local 100 [true] _ _ rfl ?_ ?_
    · simp; omega
    refine Run.drawA noX_local rfl [5] [(1, .cells 32 [.vals 65 (relV S)])] rfl rfl ⟨rfl, trivial⟩ ?_
    refine RunOF_sound tab_ok noX_local rfl rfl 100 [] _ _ rfl ?_ ?_
    · simp [relV_get _ _ hk', intAt_row _ _ hk']; omega
    refine RunO.callFv (cs := []) (f := g) (r := .int .u64 (un (F (R.row k) (S.row k)))) noX_local rfl rfl rfl rfl rfl rfl rfl rfl hent rfl (fun w' _ => ?_) ?_
    · have e1 : intAt (relV (rowP F R S k)) (1 - 0 + (k : Int).toNat * 1) = un (R.row k) := by
        rw [show 1 - 0 + (k : Int).toNat * 1 = 1 + k by simp, intAt_row _ _ hk', rowP_row F R S k hk']
      have e2 : intAt (relV S) (1 - 0 + (k : Int).toNat * 1) = un (S.row k) := by
        rw [show 1 - 0 + (k : Int).toNat * 1 = 1 + k by simp, intAt_row _ _ hk']
      have := hg (R.row k) (S.row k) w'
      rw [← e1, ← e2] at this
      exact this
    refine RunOF_sound tab_ok noX_local rfl rfl 100 [] _ _ rfl ?_ ?_
    · simp [okCell, Value.oneCell', inT, lk]; omega
    refine RunO.done ?_
    refine RunF_sound tab_ok noX_local 100 [] _ _ rfl ?_ ?_
    · simp
    refine ih (k + 1) (by omega) _ ⟨rfl, rfl, rfl, rfl, rfl, i64_eq (wrap_succ (by omega)), trivial⟩ ⟨congrArg (fun l => some (Blk.cells 32 [.vals 65 l])) ?_, rfl, rfl, trivial⟩
    simp [relV_set _ _ hk', rowP_step]

theorem rowwise_enters : Enters Tryd.prog 42 := enters_mk Tryd.func42 (by decide) rfl

theorem andn_ok (a b : BitVec 64) (w : World) : Gives Tryd.prog 43 [.int .u64 (un a), .int .u64 (un b)] w (.int .u64 (un (a &&& ~~~b))) := by
  refine Gives.of_run Tryd.func43 rfl (by show 2 ≤ 8; decide) ?_
  refine RunF_sound tab_ok noX_local 100 [] _ _ rfl ?_ ?_
  · simp
  exact Run.retP tab_ok Tryd.func43 rfl trivial (fun M => by show Value.int _ _ = _; rw [bandn_un])

theorem andn_enters : Enters Tryd.prog 43 := enters_mk Tryd.func43 (by decide) rfl

theorem minus_ok (r s : Rl) (w : World) : Gives Tryd.prog 25 [encRel r, encRel s] w (encRel (opL (fun a b => a &&& ~~~b) r s)) := by
  refine Gives.of_run Tryd.func25 rfl (by show 2 ≤ 8; decide) ?_
  refine RunF_sound tab_ok noX_local 100 [] _ _ rfl ?_ ?_
  · simp
  refine Run.callM noX_local rfl rfl rfl rfl rfl rfl rowwise_enters rfl (fun M w' _ _ => rowwise_ok 43 (fun a b => a &&& ~~~b) andn_enters andn_ok r s w') ?_
  refine RunF_sound tab_ok noX_local 100 [] _ _ rfl ?_ ?_
  · simp [segsVals, relV_one']
  refine Run.retP tab_ok Tryd.func25 rfl ?_ (fun M => ?_)
  · simp
  rfl

theorem minus_enters : Enters Tryd.prog 25 := enters_mk Tryd.func25 (by decide) rfl

def invF (n : Int) (l : List (Int × Int)) : Rl := l.foldl (fun o e => o.setRow e.2.toNat (o.row e.2.toNat ||| 1#64 <<< e.1.toNat)) (Rl.void n)

theorem invF_app (n : Int) (l : List (Int × Int)) (e : Int × Int) : invF n (l ++ [e]) = (invF n l).setRow e.2.toNat ((invF n l).row e.2.toNat ||| 1#64 <<< e.1.toNat) := by
  unfold invF; rw [List.foldl_append]; rfl

def cmpF (s : Rl) (n : Int) (l : List (Int × Int)) : Rl := l.foldl (fun o e => o.setRow e.1.toNat (o.row e.1.toNat ||| s.row e.2.toNat)) (Rl.void n)

theorem cmpF_app (s : Rl) (n : Int) (l : List (Int × Int)) (e : Int × Int) : cmpF s n (l ++ [e]) = (cmpF s n l).setRow e.1.toNat ((cmpF s n l).row e.1.toNat ||| s.row e.2.toNat) := by
  unfold cmpF; rw [List.foldl_append]; rfl

/-- Where the pairs are. -/
theorem restL_mem (r : Rl) : ∀ d i e, e ∈ restL r i d → ∃ a b : Nat, e = ((a : Int), (b : Int)) ∧ i ≤ a ∧ a < i + d ∧ r.has a b = true
  | 0, i, e, h => by cases h
  | d + 1, i, e, h => by
    rw [restL, List.mem_append] at h
    rcases h with h | h
    · obtain ⟨b, hb, rfl⟩ := List.mem_map.1 h
      exact ⟨i, b, rfl, Nat.le_refl _, by omega, (bitsL_mem _ _).1 hb⟩
    · obtain ⟨a, b, h1, h2, h3, h4⟩ := restL_mem r d (i + 1) e h
      exact ⟨a, b, h1, by omega, by omega, h4⟩

theorem edges_mem (r : Rl) (e : Int × Int) (h : e ∈ edgesL r) : ∃ a b : Nat, e = ((a : Int), (b : Int)) ∧ a < 64 ∧ b < 64 ∧ r.has a b = true := by
  obtain ⟨a, b, h1, h2, h3, h4⟩ := restL_mem r _ _ e h
  obtain ⟨h5, h6⟩ := Rl.has_lt r h4
  exact ⟨a, b, h1, h5, h6, h4⟩

/-- The blocks of Inverse. -/
def invBlk (r o : Rl) : List (Nat × Blk) := [(2, .cells 32 [.vals 65 (relV o)]), (1, .cells 32 [.vals 65 (relV (Rl.void 0))]), (0, .cells 32 [.vals 65 (relV r)])]

theorem inverse_ok (r : Rl) (w : World) (hT : TabAt w) (h0 : 0 < w.heap.size) : Gives Tryd.prog 27 [encRel r] w (encRel (invF (rightL r).n (edgesL (rightL r)))) := by
  refine Gives.of_run Tryd.func27 rfl (by show 1 ≤ 24; decide) ?_
  refine RunF_sound tab_ok noX_local 100 [] _ _ rfl ?_ ?_
  · simp
  refine Run.callFn noX_local rfl rfl rfl rfl rfl rfl rfl right_enters rfl (fun w' _ => right_ok r w') ?_
  refine RunF_sound tab_ok noX_local 100 [] _ _ rfl ?_ ?_
  · simp [fillL, Value.cells, segsVals, relV_tail_one, splice]
  refine Run.callR noX_local rfl rfl rfl rfl rfl rfl edges_enters rfl (fun M w' _ _ => edges_ok r w') ?_
  rintro v w2 w1 S1 hag hag2 ⟨bb, rfl, hbl, hRel⟩ hS1
  have hB1 := (Based.refl w).call hag hag2 hS1
  have hbw1 : bb < w1.heap.size := World.block_lt_of_cell? w1 _ (hRel 0 _ rfl)
  have hS1b : ¬ S1 bb := hS1.new bb hbl
  have hS10 : ¬ S1 0 := fun h => by have := hB1.new 0 h; omega
  have hw1 : 0 < w1.heap.size := by have := hB1.agree.size; omega
  have hn := rightL_n r
  have hit := edges_iter (rightL r) hn bb w1 hRel (hT.agree hB1.agree (fun f => f))
  have hmem := edges_mem (rightL r)
  generalize rightL r = R at *
  generalize edgesL R = E at *
  refine ⟨.fn 53 [.v (.pointer (some ⟨bb, 0, none⟩))], fun M => rfl, ?_⟩
  refine RunF_sound tab_ok noX_local 100 [] _ _ rfl ?_ ?_
  · simp
  refine Run.rangeFn noX_local rfl rfl (fun M => rfl) edgesIt_enters 4 [(3, .ptr 2 0), (2, .ptr 1 0)] ⟨rfl, rfl, trivial⟩ rfl rfl hit
    (fun k hk => by rcases hk with rfl | rfl; exact ⟨hw1, hS10⟩; exact ⟨hbw1, hS1b⟩) (fun x hx => by simp only [encEs, List.mem_map] at hx; obtain ⟨e, _, rfl⟩ := hx; rfl)
    (fun pre h => ∃ k, k ≤ E.length ∧ pre = encEs (E.take k) ∧ h = invBlk r (invF R.n (E.take k)))
    (fun _ _ _ => False) 12 (invBlk r (invF R.n [])) ⟨0, by omega, rfl, rfl⟩ ⟨?_, rfl, rfl, trivial⟩ ?_ ?_ ?_
  · show _ = some (Blk.cells 32 [.vals 65 (relV (Rl.void R.n))])
    rfl
  · rintro D l a0 rc wy fpy pre x h hI hpx ⟨k, hk, rfl, rfl⟩
    obtain ⟨hlt, rfl⟩ := encEs_next hk hpx
    obtain ⟨a, b, he, ha, hb, hab⟩ := hmem E[k] (List.getElem_mem hlt)
    have hts : E.take (k + 1) = E.take k ++ [E[k]] := List.take_succ_eq_append_getElem hlt
    have hstep : invF R.n (E.take (k + 1)) = (invF R.n (E.take k)).setRow b ((invF R.n (E.take k)).row b ||| 1#64 <<< a) := by
      rw [hts, invF_app, he]; simp
    have hnext : encEs (E.take k) ++ [encEd E[k]] = encEs (E.take (k + 1)) := encEs_succ hlt
    rw [he] at hnext ⊢
    generalize invF R.n (E.take k) = o at hstep ⊢
    refine RunF_sound tab_ok (roundX_local hI.loc l rc .ready) 100 [] _ _ rfl ?_ ?_
    · simp [segsVals]
    refine Run.beginRound hI.loc hI.lw ?_
    refine RunF_sound tab_ok (roundX_local hI.loc l rc .busy) 100 [] _ _ rfl ?_ ?_
    · simp
    refine Run.drawA (roundX_local hI.loc l rc .busy) rfl [4] [(12, .cells 83 [.vals 2 [.int .i64 (a : Int), .int .i64 (b : Int)]])] rfl rfl ⟨rfl, trivial⟩ ?_
    refine RunOF_sound tab_ok (roundX_local hI.loc l rc .busy) rfl rfl 100 [] _ _ rfl ?_ ?_
    · simp [relV_get _ _ hb, intAt_row _ _ hb, okCell, Value.oneCell', inT, lk]; omega
    refine RunO.done ?_
    refine RunF_sound tab_ok (roundX_local hI.loc l rc .busy) 100 [] _ _ rfl ?_ ?_
    · simp
    refine Run.roundEnd hI [] (invBlk r (invF R.n (E.take (k + 1)))) ⟨k + 1, by omega, hnext, rfl⟩ ⟨rfl, rfl, trivial⟩ ⟨?_, rfl, rfl, trivial⟩ rfl
    refine congrArg (fun l => some (Blk.cells 32 [.vals 65 l])) ?_
    rw [hstep]
    simp [intAt_row _ _ hb, shl1_un, relV_set _ _ hb]
  · rintro D h ⟨k, hk, hx, rfl⟩
    have hke := encEs_all hk hx
    have e1 : E.take k = E := List.take_of_length_le (by omega)
    rw [e1]
    refine RunF_sound tab_ok (markX_local noX_local D) 100 [] _ _ rfl ?_ ?_
    · simp [segsVals, relV_one']
    refine Run.retB (Ds := [D]) tab_ok noX_local hB1 Tryd.func27 rfl ?_ (fun M => ?_)
    · simp
    rfl
  · rintro D pre c h hpre hF
    exact hF.elim

theorem inverse_enters : Enters Tryd.prog 27 := enters_mk Tryd.func27 (by decide) rfl

def cmpBlk (r s o : Rl) : List (Nat × Blk) := [(3, .cells 32 [.vals 65 (relV o)]), (2, .cells 32 [.vals 65 (relV (Rl.void 0))]), (1, .cells 32 [.vals 65 (relV s)]), (0, .cells 32 [.vals 65 (relV r)])]

noncomputable def composeL (r s : Rl) : Rl := cmpF (twoL r s).2 (twoL r s).1.n (edgesL (twoL r s).1)

theorem compose_ok (r s : Rl) (w : World) (hT : TabAt w) (h0 : 0 < w.heap.size) : Gives Tryd.prog 26 [encRel r, encRel s] w (encRel (composeL r s)) := by
  refine Gives.of_run Tryd.func26 rfl (by show 2 ≤ 33; decide) ?_
  refine RunF_sound tab_ok noX_local 100 [] _ _ rfl ?_ ?_
  · simp
  refine Run.callFn noX_local rfl rfl rfl rfl rfl rfl rfl two_enters rfl (fun w' _ => two_ok r s w') ?_
  have hn := twoL_b r s
  have hrt := (twoL_right r s).1
  unfold composeL
  generalize (twoL r s).1 = R at hn hrt
  generalize (twoL r s).2 = S at hn hrt
  refine RunF_sound tab_ok noX_local 100 [] _ _ rfl ?_ ?_
  · simp [fillL, Value.cells, segsVals, relV_one', relV_tail_one, splice]
  refine Run.callR (Q := fun v w w' => ∃ b, v = edgesF b ∧ w.heap.size ≤ b ∧ RelAt w' b R) noX_local rfl rfl rfl rfl rfl rfl edges_enters rfl (fun M w' _ _ => ?_) ?_
  · have := edges_ok R w'
    rw [hrt] at this
    simp only [List.append_nil]
    exact this
  rintro v w2 w1 S1 hag hag2 ⟨bb, rfl, hbl, hRel⟩ hS1
  have hB1 := (Based.refl w).call hag hag2 hS1
  have hbw1 : bb < w1.heap.size := World.block_lt_of_cell? w1 _ (hRel 0 _ rfl)
  have hS1b : ¬ S1 bb := hS1.new bb hbl
  have hS10 : ¬ S1 0 := fun h => by have := hB1.new 0 h; omega
  have hw1 : 0 < w1.heap.size := by have := hB1.agree.size; omega
  have hit := edges_iter R hn bb w1 hRel (hT.agree hB1.agree (fun f => f))
  have hmem := edges_mem R
  generalize edgesL R = E at *
  refine ⟨.fn 53 [.v (.pointer (some ⟨bb, 0, none⟩))], fun M => rfl, ?_⟩
  refine RunF_sound tab_ok noX_local 100 [] _ _ rfl ?_ ?_
  · simp
  refine Run.rangeFn noX_local rfl rfl (fun M => rfl) edgesIt_enters 6 [(5, .ptr 3 0), (4, .ptr 2 0), (3, .ptr 1 0)] ⟨rfl, rfl, rfl, trivial⟩ rfl rfl hit
    (fun k hk => by rcases hk with rfl | rfl; exact ⟨hw1, hS10⟩; exact ⟨hbw1, hS1b⟩) (fun x hx => by simp only [encEs, List.mem_map] at hx; obtain ⟨e, _, rfl⟩ := hx; rfl)
    (fun pre h => ∃ k, k ≤ E.length ∧ pre = encEs (E.take k) ∧ h = cmpBlk R S (cmpF S R.n (E.take k)))
    (fun _ _ _ => False) 12 (cmpBlk R S (cmpF S R.n [])) ⟨0, by omega, rfl, rfl⟩ ⟨?_, rfl, ?_, ?_, trivial⟩ ?_ ?_ ?_
  · show _ = some (Blk.cells 32 [.vals 65 (relV (Rl.void R.n))])
    simp [lk]
    rfl
  · simp [lk]
  · simp [lk]
  · rintro D l a0 rc wy fpy pre x h hI hpx ⟨k, hk, rfl, rfl⟩
    obtain ⟨hlt, rfl⟩ := encEs_next hk hpx
    obtain ⟨a, b, he, ha, hb, hab⟩ := hmem E[k] (List.getElem_mem hlt)
    have hts : E.take (k + 1) = E.take k ++ [E[k]] := List.take_succ_eq_append_getElem hlt
    have hstep : cmpF S R.n (E.take (k + 1)) = (cmpF S R.n (E.take k)).setRow a ((cmpF S R.n (E.take k)).row a ||| S.row b) := by
      rw [hts, cmpF_app, he]; simp
    have hnext : encEs (E.take k) ++ [encEd E[k]] = encEs (E.take (k + 1)) := encEs_succ hlt
    rw [he] at hnext ⊢
    generalize cmpF S R.n (E.take k) = o at hstep ⊢
    refine RunF_sound tab_ok (roundX_local hI.loc l rc .ready) 100 [] _ _ rfl ?_ ?_
    · simp [segsVals]
    refine Run.beginRound hI.loc hI.lw ?_
    refine RunF_sound tab_ok (roundX_local hI.loc l rc .busy) 100 [] _ _ rfl ?_ ?_
    · simp
    refine Run.drawA (roundX_local hI.loc l rc .busy) rfl [4] [(12, .cells 83 [.vals 2 [.int .i64 (a : Int), .int .i64 (b : Int)]]), (1, .cells 32 [.vals 65 (relV S)])] rfl rfl ⟨rfl, rfl, trivial⟩ ?_
    refine RunOF_sound tab_ok (roundX_local hI.loc l rc .busy) rfl rfl 100 [] _ _ rfl ?_ ?_
    · simp [relV_get _ _ hb, relV_get _ _ ha, intAt_row _ _ hb, intAt_row _ _ ha, okCell, Value.oneCell', inT, lk]; omega
    refine RunO.done ?_
    refine RunF_sound tab_ok (roundX_local hI.loc l rc .busy) 100 [] _ _ rfl ?_ ?_
    · simp
    refine Run.roundEnd hI [] (cmpBlk R S (cmpF S R.n (E.take (k + 1)))) ⟨k + 1, by omega, hnext, rfl⟩ ⟨rfl, rfl, rfl, trivial⟩ ⟨?_, rfl, rfl, rfl, trivial⟩ rfl
    refine congrArg (fun l => some (Blk.cells 32 [.vals 65 l])) ?_
    rw [hstep]
    simp [intAt_row _ _ hb, intAt_row _ _ ha, relV_set _ _ ha]
  · rintro D h ⟨k, hk, hx, rfl⟩
    have hke := encEs_all hk hx
    have e1 : E.take k = E := List.take_of_length_le (by omega)
    rw [e1]
    refine RunF_sound tab_ok (markX_local noX_local D) 100 [] _ _ rfl ?_ ?_
    · simp [segsVals, relV_one']
    refine Run.retB (Ds := [D]) tab_ok noX_local hB1 Tryd.func26 rfl ?_ (fun M => ?_)
    · simp
    rfl
  · rintro D pre c h hpre hF
    exact hF.elim

theorem compose_enters : Enters Tryd.prog 26 := enters_mk Tryd.func26 (by decide) rfl

/-! ### Where the pairs of a fold are -/

theorem invF_n (n : Int) : ∀ l : List (Int × Int), (invF n l).n = n := by
  intro l
  unfold invF
  suffices H : ∀ (l : List (Int × Int)) (o : Rl), (l.foldl (fun o e => o.setRow e.2.toNat (o.row e.2.toNat ||| 1#64 <<< e.1.toNat)) o).n = o.n from H l _
  intro l
  induction l with
  | nil => intro o; rfl
  | cons e l ih => intro o; rw [List.foldl_cons, ih, Rl.n_setRow]

theorem cmpF_n (s : Rl) (n : Int) : ∀ l : List (Int × Int), (cmpF s n l).n = n := by
  intro l
  unfold cmpF
  suffices H : ∀ (l : List (Int × Int)) (o : Rl), (l.foldl (fun o e => o.setRow e.1.toNat (o.row e.1.toNat ||| s.row e.2.toNat)) o).n = o.n from H l _
  intro l
  induction l with
  | nil => intro o; rfl
  | cons e l ih => intro o; rw [List.foldl_cons, ih, Rl.n_setRow]

theorem invF_has (l : List (Int × Int)) (hl : ∀ e ∈ l, e.1.toNat < 64 ∧ e.2.toNat < 64) : ∀ (o : Rl) (x y : Nat),
    (l.foldl (fun o e => o.setRow e.2.toNat (o.row e.2.toNat ||| 1#64 <<< e.1.toNat)) o).has x y = (o.has x y || l.any fun e => decide (e.2.toNat = x) && decide (e.1.toNat = y)) := by
  induction l with
  | nil => intro o x y; simp
  | cons e l ih =>
    intro o x y
    have he := hl e (List.mem_cons_self ..)
    rw [List.foldl_cons, ih (fun e' h' => hl e' (List.mem_cons_of_mem _ h')), Rl.has_setRow, List.any_cons, ← Bool.or_assoc]
    congr 1
    by_cases hx : e.2.toNat = x
    · subst hx
      rw [if_pos ⟨rfl, he.2⟩, BitVec.getLsbD_or, one_shl_get _ _ he.1]
      have : ∀ a b : Nat, decide (a = b) = decide (b = a) := fun a b => decide_eq_decide.2 eq_comm
      rw [this y]
      simp [Rl.has]
    · rw [if_neg (by simp [hx])]; simp [hx]

theorem cmpF_has (s : Rl) (l : List (Int × Int)) (hl : ∀ e ∈ l, e.1.toNat < 64) : ∀ (o : Rl) (x y : Nat),
    (l.foldl (fun o e => o.setRow e.1.toNat (o.row e.1.toNat ||| s.row e.2.toNat)) o).has x y = (o.has x y || l.any fun e => decide (e.1.toNat = x) && s.has e.2.toNat y) := by
  induction l with
  | nil => intro o x y; simp
  | cons e l ih =>
    intro o x y
    have he := hl e (List.mem_cons_self ..)
    rw [List.foldl_cons, ih (fun e' h' => hl e' (List.mem_cons_of_mem _ h')), Rl.has_setRow, List.any_cons, ← Bool.or_assoc]
    congr 1
    by_cases hx : e.1.toNat = x
    · subst hx
      rw [if_pos ⟨rfl, he⟩, BitVec.getLsbD_or]
      simp [Rl.has]
    · rw [if_neg (by simp [hx])]; simp [hx]

theorem edges_has (r : Rl) (a b : Nat) : ((a : Int), (b : Int)) ∈ edgesL (rightL r) ↔ (rightL r).has a b = true := by
  have hn := rightL_n r
  constructor
  · intro h
    obtain ⟨a', b', h1, _, _, h4⟩ := edges_mem _ _ h
    simp only [Prod.mk.injEq, Int.natCast_inj] at h1
    rw [h1.1, h1.2]; exact h4
  · intro h
    have hb := right_has r a b h
    suffices H : ∀ d i, i ≤ a → a < i + d → ((a : Int), (b : Int)) ∈ restL (rightL r) i d from H _ 0 (Nat.zero_le _) (by omega)
    intro d
    induction d with
    | zero => intro i h1 h2; omega
    | succ d ih =>
      intro i h1 h2
      rw [restL, List.mem_append]
      by_cases he : i = a
      · subst he
        exact .inl (List.mem_map.2 ⟨b, (bitsL_mem _ _).2 h, rfl⟩)
      · exact .inr (ih (i + 1) (by omega) (by omega))

/-- Inverse, pair by pair. -/
theorem inverse_has (r : Rl) (x y : Nat) : (invF (rightL r).n (edgesL (rightL r))).has x y = (rightL r).has y x := by
  unfold invF
  rw [invF_has _ (fun e he => by obtain ⟨a, b, rfl, h1, h2, _⟩ := edges_mem _ _ he; exact ⟨by simpa using h1, by simpa using h2⟩), Rl.gen_void, Rl.has_gen]
  rw [Bool.and_false, Bool.false_or, Bool.eq_iff_iff, List.any_eq_true]
  constructor
  · rintro ⟨e, he, h⟩
    obtain ⟨a, b, rfl, _, _, h4⟩ := edges_mem _ _ he
    simp at h
    rw [← h.1, ← h.2]; exact h4
  · intro h
    exact ⟨((y : Int), (x : Int)), (edges_has r y x).2 h, by simp⟩

/-- Compose, pair by pair. -/
theorem compose_has (r s : Rl) (x y : Nat) : (composeL r s).has x y = (List.range 64).any fun c => (twoL r s).1.has x c && (twoL r s).2.has c y := by
  unfold composeL cmpF
  have hr := (twoL_right r s).1
  rw [cmpF_has _ _ (fun e he => by obtain ⟨a, b, rfl, h1, h2, _⟩ := edges_mem _ _ he; simpa using h1), Rl.gen_void, Rl.has_gen]
  rw [Bool.and_false, Bool.false_or, Bool.eq_iff_iff, List.any_eq_true, List.any_eq_true]
  constructor
  · rintro ⟨e, he, h⟩
    obtain ⟨a, b, rfl, _, hb, h4⟩ := edges_mem _ _ he
    simp at h
    exact ⟨b, List.mem_range.2 hb, by rw [← h.1, h4]; simpa using h.2⟩
  · rintro ⟨c, _, h⟩
    simp only [Bool.and_eq_true] at h
    refine ⟨((x : Int), (c : Int)), ?_, by simpa using h.2⟩
    rw [← hr]
    exact (edges_has _ x c).2 (by rw [hr]; exact h.1)

/-- Which pairs stand in an operation of two. -/
def pTwo (op : Nat) (R S : Rl) (x y : Nat) : Bool :=
  match op with
  | 0 => R.has x y || S.has x y
  | 1 => R.has x y && S.has x y
  | 2 => R.has x y && !S.has x y
  | _ => (List.range R.n.toNat).any fun c => R.has x c && S.has c y

noncomputable def twoR (op : Nat) (r s : Rl) : Rl := Rl.gen (twoL r s).1.n (pTwo op (twoL r s).1 (twoL r s).2)

/-- An operation row by row, pair by pair. -/
theorem opL_gen (F : BitVec 64 → BitVec 64 → BitVec 64) (op : Nat) (h0 : F 0#64 0#64 = 0#64) (hF : ∀ R S : Rl, ∀ x y, y < 64 → (F (R.row x) (S.row x)).getLsbD y = pTwo op R S x y) (r s : Rl) : opL F r s = twoR op r s := by
  have hr := twoL_right r s
  have hn := twoL_n r s
  have hb := twoL_b r s
  unfold opL twoR
  generalize (twoL r s).1 = R at hr hn hb
  generalize (twoL r s).2 = S at hr hn
  apply Rl.ext_has
  · rw [Rl.n_gen]; exact Rl.n_by _ _
  · intro x y hx hy
    rw [Rl.has_gen, decide_eq_true ⟨hx, hy⟩, Bool.true_and, ← hF R S x y hy]
    show ((rowP F R S R.n.toNat).row x).getLsbD y = _
    unfold rowP
    rw [Rl.row_by, if_pos hx]
    by_cases hlt : x < R.n.toNat
    · rw [if_pos hlt]
    · rw [if_neg hlt, row0_of hr.1 (by omega), row0_of hr.2 (show S.n ≤ (x : Int) by omega), h0]

theorem minus_eq (r s : Rl) : opL (fun a b => a &&& ~~~b) r s = twoR 2 r s := opL_gen _ 2 (by decide) (fun R S x y hy => by rw [BitVec.getLsbD_and, BitVec.getLsbD_not, decide_eq_true hy, Bool.true_and]; rfl) r s

theorem compose_eq (r s : Rl) : composeL r s = twoR 3 r s := by
  have hr := twoL_right r s
  have hb := twoL_b r s
  apply Rl.ext_has
  · unfold composeL twoR
    rw [cmpF_n, Rl.n_gen]
  · intro x y hx hy
    rw [compose_has]
    unfold twoR
    rw [Rl.has_gen, decide_eq_true ⟨hx, hy⟩, Bool.true_and]
    generalize (twoL r s).1 = R at hr hb
    generalize (twoL r s).2 = S at hr
    show _ = (List.range R.n.toNat).any fun c => R.has x c && S.has c y
    rw [Bool.eq_iff_iff, List.any_eq_true, List.any_eq_true]
    constructor
    · rintro ⟨c, _, h⟩
      have h1 := (Bool.and_eq_true_iff.1 h).1
      have := right_has R x c (by rw [hr.1]; exact h1)
      rw [hr.1] at this
      exact ⟨c, List.mem_range.2 (by omega), h⟩
    · rintro ⟨c, hc, h⟩
      have := List.mem_range.1 hc
      exact ⟨c, List.mem_range.2 (by omega), h⟩

theorem inverse_eq (r : Rl) : invF (rightL r).n (edgesL (rightL r)) = Rl.gen (rightL r).n fun x y => (rightL r).has y x := by
  apply Rl.ext_has
  · rw [invF_n, Rl.n_gen]
  · intro x y hx hy
    rw [inverse_has, Rl.has_gen, decide_eq_true ⟨hx, hy⟩, Bool.true_and]

end Go.Proofs.YtehimiadpgbhmaaDoor

/-
  An execution as a value; lists of numbers in a world; the reads-from and coherence relations, in plain Lean. Own work.
-/
namespace Go.Proofs.YtehimiadpgbhmaaDoor
open Go.AM
set_option maxRecDepth 100000

/-- A slice of numbers, as it lies in a world. -/
def SeesI (w : World) (p : Option Addr) (xs : List Int) : Prop :=
  ∀ i (h : i < xs.length), p = some (p.getD default) ∧ w.cell? ((p.getD default).add i) = some (.int .i64 xs[i])
theorem SeesI.agree {S : Nat → Prop} {w w' : World} {p : Option Addr} {xs : List Int} (h : SeesI w p xs) (hA : Agree S w w') (hS : ∀ a, p = some a → ¬ S a.block) : SeesI w' p xs := by
  intro i hi
  obtain ⟨h1, h2⟩ := h i hi
  exact ⟨h1, hA.cell h2 (by rw [add_block]; exact hS _ h1)⟩

/-- A slice of slices of numbers. -/
def SeesII (w : World) (p : Option Addr) (xss : List (List Int)) : Prop :=
  ∀ i (h : i < xss.length), p = some (p.getD default) ∧ ∃ q c, w.cell? ((p.getD default).add i) = some (.slice q xss[i].length c) ∧ SeesI w q xss[i]
theorem SeesII.agree {w w' : World} {p : Option Addr} {xss : List (List Int)} (h : SeesII w p xss) (hA : Agree (fun _ => False) w w') : SeesII w' p xss := by
  intro i hi
  obtain ⟨h1, q, c, h2, h3⟩ := h i hi
  exact ⟨h1, q, c, hA.cell h2 (fun h => h), h3.agree hA (fun _ _ h => h)⟩

/-- An execution: its events, whence reads read, and the orders; the rest is not looked at. -/
structure Xn where
  ev : List Ev
  from_ : List Int
  ord : List (List Int)
  pe : Option Addr
  ce : Nat
  u1 : Value
  pf : Option Addr
  cf : Nat
  po : Option Addr
  co : Nat
  u4 : Value
def xV (x : Xn) : List Value := [.slice x.pe x.ev.length x.ce, x.u1, .slice x.pf x.from_.length x.cf, .slice x.po x.ord.length x.co, x.u4]
def encX (x : Xn) : Value := .agg (xV x).toArray
structure SeesX (w : World) (x : Xn) : Prop where
  ev : SeesV w x.pe x.ev
  from_ : SeesI w x.pf x.from_
  ord : SeesII w x.po x.ord
  one1 : x.u1.oneCell' = true
  one4 : x.u4.oneCell' = true
  cap : x.from_.length ≤ x.cf
  lf : x.from_.length ≤ maxLen
  lo : x.ord.length ≤ maxLen
  lo2 : ∀ c ∈ x.ord, c.length ≤ maxLen
theorem SeesX.agree {w w' : World} {x : Xn} (h : SeesX w x) (hA : Agree (fun _ => False) w w') : SeesX w' x :=
  ⟨h.ev.agree hA (fun _ _ h => h), h.from_.agree hA (fun _ _ h => h), h.ord.agree hA, h.one1, h.one4, h.cap, h.lf, h.lo, h.lo2⟩
theorem xV_one {x : Xn} (h1 : x.u1.oneCell' = true) (h4 : x.u4.oneCell' = true) : (∀ c ∈ xV x, c.oneCell' = true) ↔ True := iff_true_intro fun c hc => by
  simp only [xV, List.mem_cons, List.not_mem_nil, or_false] at hc
  rcases hc with rfl | rfl | rfl | rfl | rfl
  · rfl
  · exact h1
  · rfl
  · rfl
  · exact h4
@[simp] theorem xV_0 (x : Xn) : (xV x)[0]? = some (.slice x.pe x.ev.length x.ce) := rfl
@[simp] theorem xV_2 (x : Xn) : (xV x)[2]? = some (.slice x.pf x.from_.length x.cf) := rfl
@[simp] theorem xV_3 (x : Xn) : (xV x)[3]? = some (.slice x.po x.ord.length x.co) := rfl
@[simp] theorem slOf_slice (p : Option Addr) (n c : Nat) : slOf (some (.slice p n c)) = (p, n, c) := rfl

/-- The pairs that the first k numbers say. -/
def rfP (n : Int) (fr : List Int) (k : Nat) : Rl := Rl.gen n fun x y => decide (y < k) && (decide ((x : Int) < n) && decide (fr[y]? = some (x : Int)))
def rfL (n : Nat) (fr : List Int) : Rl := rfP n fr (min n fr.length)
theorem rfP_0 (n : Int) (fr : List Int) : rfP n fr 0 = Rl.void n := by
  rw [Rl.gen_void]; exact Rl.gen_congr fun a b _ _ => by simp
theorem rfP_yes {n : Int} {fr : List Int} {k v : Nat} (hk : k < 64) (hv : v < 64) (hn : (v : Int) < n) (h : fr[k]? = some (v : Int)) : (rfP n fr k).setRow v ((rfP n fr k).row v ||| 1#64 <<< k) = rfP n fr (k + 1) := by
  unfold rfP
  rw [Rl.gen_add _ _ _ _ hv hk]
  refine Rl.gen_congr fun x y _ _ => ?_
  by_cases hy : y = k
  · subst hy
    rw [h]
    by_cases hx : x = v
    · subst hx; simp [hn]
    · have : ¬ (v : Int) = (x : Int) := by omega
      simp [hx, this]
  · have : decide (y < k + 1) = decide (y < k) := decide_eq_decide.2 (by omega)
    simp [hy, this]
theorem rfP_no {n : Int} {fr : List Int} {k : Nat} (h : ∀ v : Nat, (v : Int) < n → fr[k]? ≠ some (v : Int)) : rfP n fr k = rfP n fr (k + 1) := by
  unfold rfP
  refine Rl.gen_congr fun x y _ _ => ?_
  by_cases hy : y = k
  · subst hy
    by_cases hx : (x : Int) < n
    · simp [h x hx]
    · simp [hx]
  · have : decide (y < k + 1) = decide (y < k) := decide_eq_decide.2 (by omega)
    simp [this]

/-- One number more in a chain: it stands behind all that are ahead of it. -/
def cP (R : Rl) (s : BitVec 64) (b k : Nat) : Rl := Rl.by_ R.n fun a => if a < k ∧ s.getLsbD a = true then R.row a ||| 1#64 <<< b else R.row a
theorem cP_n (R : Rl) (s : BitVec 64) (b k : Nat) : (cP R s b k).n = R.n := by unfold cP; exact Rl.n_by _ _
theorem cP_0 (R : Rl) (s : BitVec 64) (b : Nat) : cP R s b 0 = R := by
  unfold cP
  conv => rhs; rw [← by_row R]
  exact Rl.by_congr fun x _ => by simp
theorem cP_at {R : Rl} {s : BitVec 64} {b k : Nat} (hk : k < 64) : (cP R s b k).row k = R.row k := by
  unfold cP; rw [Rl.row_by, if_pos hk, if_neg (by omega)]
theorem cP_yes {R : Rl} {s : BitVec 64} {b k : Nat} (hk : k < 64) (h : s.getLsbD k = true) : (cP R s b k).setRow k ((cP R s b k).row k ||| 1#64 <<< b) = cP R s b (k + 1) := by
  rw [cP_at hk]
  unfold cP
  rw [Rl.set_by]
  refine Rl.by_congr fun x _ => ?_
  by_cases e : k = x
  · subst e; simp [h]
  · rw [if_neg e]
    have : (x < k ∧ s.getLsbD x = true) ↔ (x < k + 1 ∧ s.getLsbD x = true) := by constructor <;> rintro ⟨h1, h2⟩ <;> exact ⟨by omega, h2⟩
    simp only [this]
theorem cP_no {R : Rl} {s : BitVec 64} {b k : Nat} (h : s.getLsbD k = false) : cP R s b k = cP R s b (k + 1) := by
  unfold cP
  refine Rl.by_congr fun x _ => ?_
  by_cases e : k = x
  · subst e; simp [h]
  · have : (x < k ∧ s.getLsbD x = true) ↔ (x < k + 1 ∧ s.getLsbD x = true) := by constructor <;> rintro ⟨h1, h2⟩ <;> exact ⟨by omega, h2⟩
    simp only [this]
def cStep (n : Nat) (z : Rl × BitVec 64) (v : Int) : Rl × BitVec 64 := if v < 0 ∨ v ≥ (n : Int) then z else (cP z.1 z.2 v.toNat n, z.2 ||| 1#64 <<< v.toNat)
def cChain (n : Nat) (R : Rl) (c : List Int) : Rl := (c.foldl (cStep n) (R, 0#64)).1
def coL (n : Nat) (ord : List (List Int)) : Rl := ord.foldl (cChain n) (Rl.void (n : Int))

theorem cStep_n (n : Nat) (z : Rl × BitVec 64) (v : Int) : (cStep n z v).1.n = z.1.n := by
  unfold cStep; split
  · rfl
  · exact cP_n _ _ _ _
theorem fold_n (n : Nat) : ∀ (c : List Int) (z : Rl × BitVec 64), (c.foldl (cStep n) z).1.n = z.1.n
  | [], z => rfl
  | v :: c, z => by rw [List.foldl_cons, fold_n n c, cStep_n]
theorem chain_n (n : Nat) (R : Rl) (c : List Int) : (cChain n R c).n = R.n := fold_n n c _
theorem coL_n (n : Nat) : ∀ (ord : List (List Int)) (R : Rl), (ord.foldl (cChain n) R).n = R.n
  | [], R => rfl
  | c :: ord, R => by rw [List.foldl_cons, coL_n n ord, chain_n]

/-- All pairs are below n. -/
def Below' (n : Nat) (R : Rl) : Prop := ∀ a b, R.has a b = true → a < n ∧ b < n
theorem cStep_below {n : Nat} (hn : n ≤ 64) {z : Rl × BitVec 64} {v : Int} (h : Below' n z.1) : Below' n (cStep n z v).1 := by
  unfold cStep
  split
  · exact h
  · rename_i hv
    intro a b hb
    have hv' : v.toNat < n := by omega
    rcases Nat.lt_or_ge a 64 with ha | ha
    · have hb : (Rl.row (cP z.1 z.2 v.toNat n) a).getLsbD b = true := hb
      unfold cP at hb
      rw [Rl.row_by, if_pos ha] at hb
      split at hb
      · rename_i h1
        rw [BitVec.getLsbD_or, Bool.or_eq_true] at hb
        rcases hb with hb | hb
        · exact h a b hb
        · rw [one_shl_get _ _ (by omega)] at hb
          simp at hb
          omega
      · exact h a b hb
    · rw [Rl.has, Rl.row_ge _ ha] at hb; simp at hb
theorem fold_below {n : Nat} (hn : n ≤ 64) : ∀ (c : List Int) (z : Rl × BitVec 64), Below' n z.1 → Below' n (c.foldl (cStep n) z).1
  | [], z, h => h
  | v :: c, z, h => by rw [List.foldl_cons]; exact fold_below hn c _ (cStep_below hn h)
theorem coL_below {n : Nat} (hn : n ≤ 64) : ∀ (ord : List (List Int)) (R : Rl), Below' n R → Below' n (ord.foldl (cChain n) R)
  | [], R, h => h
  | c :: ord, R, h => by rw [List.foldl_cons]; exact coL_below hn ord _ (fold_below hn c _ h)
theorem void_below (n : Nat) (m : Int) : Below' n (Rl.void m) := fun a b h => by rw [Rl.has, Rl.row_void] at h; simp at h
theorem rfL_below {n : Nat} (fr : List Int) : Below' n (rfL n fr) := fun a b h => by
  unfold rfL rfP at h
  rw [Rl.has_gen] at h
  simp at h
  omega
end Go.Proofs.YtehimiadpgbhmaaDoor

/-
  A program as a value; how it lies in a world. Own work.
-/
namespace Go.Proofs.YtehimiadpgbhmaaDoor
open Go.AM
set_option maxRecDepth 100000

def opV (o : Opn) : List Value := [.int .i64 o.kind, .int .i64 o.reg, .int .i64 o.src, .int .i64 o.loc, .int .i64 o.imm]
def encOp (o : Opn) : Value := .agg (opV o).toArray
@[simp] theorem opV_len (o : Opn) : (opV o).length = 5 := rfl
@[simp] theorem intAt_o0 (o : Opn) : intAt (opV o) 0 = o.kind := rfl
@[simp] theorem intAt_o1 (o : Opn) : intAt (opV o) 1 = o.reg := rfl
@[simp] theorem intAt_o2 (o : Opn) : intAt (opV o) 2 = o.src := rfl
@[simp] theorem intAt_o3 (o : Opn) : intAt (opV o) 3 = o.loc := rfl
@[simp] theorem intAt_o4 (o : Opn) : intAt (opV o) 4 = o.imm := rfl
@[simp] theorem opV_0 (o : Opn) : (opV o)[0]? = some (.int .i64 o.kind) := rfl
@[simp] theorem opV_1 (o : Opn) : (opV o)[1]? = some (.int .i64 o.reg) := rfl
@[simp] theorem opV_2 (o : Opn) : (opV o)[2]? = some (.int .i64 o.src) := rfl
@[simp] theorem opV_3 (o : Opn) : (opV o)[3]? = some (.int .i64 o.loc) := rfl
@[simp] theorem opV_4 (o : Opn) : (opV o)[4]? = some (.int .i64 o.imm) := rfl
theorem opV_one (o : Opn) : (∀ c ∈ opV o, c.oneCell' = true) ↔ True := iff_true_intro fun c hc => by
  simp only [opV, List.mem_cons, List.not_mem_nil, or_false] at hc
  rcases hc with rfl | rfl | rfl | rfl | rfl <;> rfl
@[simp] theorem zop : z60 = opV ⟨0, 0, 0, 0, 0⟩ := rfl
@[simp] theorem splice_op (e d : Opn) : splice (opV e) 0 (opV d) = opV d := rfl

/-- A slice of instructions, as it lies in a world. -/
def SeesO (w : World) (p : Option Addr) (xs : List Opn) : Prop :=
  ∀ i (h : i < xs.length), p = some (p.getD default) ∧ ∀ j x, (opV xs[i])[j]? = some x → w.cell? ((p.getD default).add (i * 5 + j)) = some x
theorem SeesO.agree {S : Nat → Prop} {w w' : World} {p : Option Addr} {xs : List Opn} (h : SeesO w p xs) (hA : Agree S w w') (hS : ∀ a, p = some a → ¬ S a.block) : SeesO w' p xs := by
  intro i hi
  obtain ⟨h1, h2⟩ := h i hi
  exact ⟨h1, fun j x hx => hA.cell (h2 j x hx) (by rw [add_block]; exact hS _ h1)⟩
theorem SeesO.ext {w : World} {p : Option Addr} {xs : List Opn} (h : SeesO w p xs) (i : Nat) (hi : i < xs.length) : extCells w ((p.getD default).add (i * 5)) 0 5 = opV xs[i] := by
  have h2 := (h i hi).2
  have c : ∀ j x, (opV xs[i])[j]? = some x → w.cell? (((p.getD default).add (i * 5)).add j) = some x := fun j x hx => by rw [add_add]; exact h2 j x hx
  simp only [extCells, c 0 _ (opV_0 _), c (0 + 1) _ (opV_1 _), c (0 + 1 + 1) _ (opV_2 _), c (0 + 1 + 1 + 1) _ (opV_3 _), c (0 + 1 + 1 + 1 + 1) _ (opV_4 _)]
  rfl
theorem SeesO.some {w : World} {p : Option Addr} {xs : List Opn} (h : SeesO w p xs) (i : Nat) (hi : i < xs.length) : ∀ j, j < 5 → (w.cell? (((p.getD default).add (i * 5)).add j)).isSome := by
  have h2 := (h i hi).2
  have c : ∀ j x, (opV xs[i])[j]? = Option.some x → w.cell? (((p.getD default).add (i * 5)).add j) = Option.some x := fun j x hx => by rw [add_add]; exact h2 j x hx
  intro j hj
  rcases (show j = 0 ∨ j = 1 ∨ j = 2 ∨ j = 3 ∨ j = 4 by omega) with rfl | rfl | rfl | rfl | rfl
  · rw [c 0 _ (opV_0 _)]; rfl
  · rw [c 1 _ (opV_1 _)]; rfl
  · rw [c 2 _ (opV_2 _)]; rfl
  · rw [c 3 _ (opV_3 _)]; rfl
  · rw [c 4 _ (opV_4 _)]; rfl

/-- A slice of strings, as it lies in a world. -/
def SeesS (w : World) (p : Option Addr) (xs : List ByteArray) : Prop :=
  ∀ i (h : i < xs.length), p = some (p.getD default) ∧ w.cell? ((p.getD default).add i) = some (.string xs[i])
theorem SeesS.agree {S : Nat → Prop} {w w' : World} {p : Option Addr} {xs : List ByteArray} (h : SeesS w p xs) (hA : Agree S w w') (hS : ∀ a, p = some a → ¬ S a.block) : SeesS w' p xs := by
  intro i hi
  obtain ⟨h1, h2⟩ := h i hi
  exact ⟨h1, hA.cell h2 (by rw [add_block]; exact hS _ h1)⟩
/-- A slice of slices. -/
def SeesLL {α : Type} (S : World → Option Addr → List α → Prop) (w : World) (p : Option Addr) (xss : List (List α)) : Prop :=
  ∀ i (h : i < xss.length), p = some (p.getD default) ∧ ∃ q c, w.cell? ((p.getD default).add i) = some (.slice q xss[i].length c) ∧ S w q xss[i]
theorem SeesLL.agree {α : Type} {S : World → Option Addr → List α → Prop} {w w' : World} {p : Option Addr} {xss : List (List α)} (h : SeesLL S w p xss) (hA : Agree (fun _ => False) w w') (hS : ∀ q l, S w q l → S w' q l) : SeesLL S w' p xss := by
  intro i hi
  obtain ⟨h1, q, c, h2, h3⟩ := h i hi
  exact ⟨h1, q, c, hA.cell h2 (fun h => h), hS _ _ h3⟩
/-- A slice of slices of which the lengths alone are looked at. -/
def SeesN (w : World) (p : Option Addr) (ns : List Nat) : Prop :=
  ∀ i (h : i < ns.length), p = some (p.getD default) ∧ ∃ q c, w.cell? ((p.getD default).add i) = some (.slice q ns[i] c)
theorem SeesN.agree {w w' : World} {p : Option Addr} {ns : List Nat} (h : SeesN w p ns) (hA : Agree (fun _ => False) w w') : SeesN w' p ns := by
  intro i hi
  obtain ⟨h1, q, c, h2⟩ := h i hi
  exact ⟨h1, q, c, hA.cell h2 (fun h => h)⟩

/-- A program: its threads, the names of the registers and of the locations; of the values at the start the numbers alone are looked at. -/
structure Pn where
  th : List (List Opn)
  regs : List (List ByteArray)
  locs : List ByteArray
  ri : List Nat
  li : Nat
  pt : Option Addr
  ct : Nat
  pr : Option Addr
  cr : Nat
  pl : Option Addr
  cl : Nat
  pi : Option Addr
  ci : Nat
  pq : Option Addr
  cq : Nat
def pV (p : Pn) : List Value := [.slice p.pt p.th.length p.ct, .slice p.pr p.regs.length p.cr, .slice p.pl p.locs.length p.cl, .slice p.pi p.ri.length p.ci, .slice p.pq p.li p.cq]
def encP (p : Pn) : Value := .agg (pV p).toArray
theorem pV_one (p : Pn) : (∀ c ∈ pV p, c.oneCell' = true) ↔ True := iff_true_intro fun c hc => by
  simp only [pV, List.mem_cons, List.not_mem_nil, or_false] at hc
  rcases hc with rfl | rfl | rfl | rfl | rfl <;> rfl
@[simp] theorem pV_len (p : Pn) : (pV p).length = 5 := rfl
@[simp] theorem pV_0 (p : Pn) : (pV p)[0]? = some (.slice p.pt p.th.length p.ct) := rfl
@[simp] theorem pV_1 (p : Pn) : (pV p)[1]? = some (.slice p.pr p.regs.length p.cr) := rfl
@[simp] theorem pV_2 (p : Pn) : (pV p)[2]? = some (.slice p.pl p.locs.length p.cl) := rfl
@[simp] theorem pV_3 (p : Pn) : (pV p)[3]? = some (.slice p.pi p.ri.length p.ci) := rfl
@[simp] theorem pV_4 (p : Pn) : (pV p)[4]? = some (.slice p.pq p.li p.cq) := rfl
structure SeesP (w : World) (p : Pn) : Prop where
  th : SeesLL SeesO w p.pt p.th
  regs : SeesLL SeesS w p.pr p.regs
  locs : SeesS w p.pl p.locs
  ri : SeesN w p.pi p.ri
  lt : p.th.length ≤ maxLen
  lt2 : ∀ l ∈ p.th, l.length ≤ 8796093022208
  lr : p.regs.length ≤ maxLen
  lr2 : ∀ l ∈ p.regs, l.length ≤ maxLen
  ll : p.locs.length ≤ maxLen
  li : p.ri.length ≤ maxLen
  li2 : ∀ n ∈ p.ri, n ≤ maxLen
  lq : p.li ≤ maxLen
theorem SeesP.agree {w w' : World} {p : Pn} (h : SeesP w p) (hA : Agree (fun _ => False) w w') : SeesP w' p :=
  ⟨h.th.agree hA (fun _ _ k => k.agree hA (fun _ _ f => f)), h.regs.agree hA (fun _ _ k => k.agree hA (fun _ _ f => f)), h.locs.agree hA (fun _ _ f => f), h.ri.agree hA, h.lt, h.lt2, h.lr, h.lr2, h.ll, h.li, h.li2, h.lq⟩
end Go.Proofs.YtehimiadpgbhmaaDoor

/-
  Names: which texts are names. Own work.
-/
namespace Go.Proofs.YtehimiadpgbhmaaDoor
open Go.AM
set_option maxRecDepth 100000

def letB (c : Int) : Bool := (decide (c ≥ 97) && decide (c ≤ 122)) || ((decide (c ≥ 65) && decide (c ≤ 90)) || decide (c = 95))
def digB (c : Int) : Bool := decide (c ≥ 48) && decide (c ≤ 57)

theorem letter_ok (c : Int) (w : World) : Gives Tryd.prog 57 [.int .u8 c] w (.bool (letB c)) := by
  refine Gives.of_run Tryd.func57 rfl (by show 1 ≤ 21; decide) ?_
  by_cases a1 : c ≥ 97
  · by_cases a2 : c ≤ 122
    · refine RunF_sound tab_ok noX_local 100 [true, true] _ _ rfl ?_ ?_
      · simp [a1, a2]
      refine Run.retP tab_ok Tryd.func57 rfl trivial (fun M => ?_)
      simp [conc, letB, a1, a2]
    · refine RunF_sound tab_ok noX_local 100 [true, false, true, false] _ _ rfl ?_ ?_
      · simp [a1, a2]; omega
      refine Run.retP tab_ok Tryd.func57 rfl trivial (fun M => ?_)
      have a5 : ¬ c = 95 := by omega
      simp [conc, letB, a1, a2, a5, show (c == 95) = false from decide_eq_false a5]
      omega
  · by_cases a3 : c ≥ 65
    · by_cases a4 : c ≤ 90
      · refine RunF_sound tab_ok noX_local 100 [false, true, true] _ _ rfl ?_ ?_
        · simp [a1, a3, a4]
        refine Run.retP tab_ok Tryd.func57 rfl trivial (fun M => ?_)
        simp [conc, letB, a1, a3, a4]
      · refine RunF_sound tab_ok noX_local 100 [false, true, false] _ _ rfl ?_ ?_
        · simp [a1, a3, a4]
        refine Run.retP tab_ok Tryd.func57 rfl trivial (fun M => ?_)
        simp [conc, letB, a1, a3, a4]
        rfl
    · refine RunF_sound tab_ok noX_local 100 [false, false] _ _ rfl ?_ ?_
      · simp [a1, a3]
      refine Run.retP tab_ok Tryd.func57 rfl trivial (fun M => ?_)
      simp [conc, letB, a1, a3]
      rfl
theorem letter_enters : Enters Tryd.prog 57 := enters_mk Tryd.func57 (by decide) rfl

theorem digit_ok (c : Int) (w : World) : Gives Tryd.prog 59 [.int .u8 c] w (.bool (digB c)) := by
  refine Gives.of_run Tryd.func59 rfl (by show 1 ≤ 9; decide) ?_
  by_cases a1 : c ≥ 48
  · refine RunF_sound tab_ok noX_local 100 [true] _ _ rfl ?_ ?_
    · simp [a1]
    refine Run.retP tab_ok Tryd.func59 rfl trivial (fun M => ?_)
    simp [conc, digB, a1]
  · refine RunF_sound tab_ok noX_local 100 [false] _ _ rfl ?_ ?_
    · simp [a1]
    refine Run.retP tab_ok Tryd.func59 rfl trivial (fun M => ?_)
    simp [conc, digB, a1]
theorem digit_enters : Enters Tryd.prog 59 := enters_mk Tryd.func59 (by decide) rfl

/-- A byte of a text; 0 behind its end. -/
def byt (s : ByteArray) (i : Nat) : Int := ((s[i]?.getD 0).toNat : Int)
theorem byteAt_ok (s : ByteArray) (i : Nat) (w : World) : Gives Tryd.prog 58 [.string s, .int .i64 (i : Int)] w (.int .u8 (byt s i)) := by
  refine Gives.of_run Tryd.func58 rfl (by show 2 ≤ 12; decide) ?_
  by_cases h : i < s.size
  · refine RunF_sound tab_ok noX_local 100 [true] _ _ rfl ?_ ?_
    · simp; omega
    exact Run.retP tab_ok Tryd.func58 rfl trivial (fun M => rfl)
  · refine RunF_sound tab_ok noX_local 100 [false] _ _ rfl ?_ ?_
    · simp; omega
    refine Run.retP tab_ok Tryd.func58 rfl trivial (fun M => ?_)
    have : s[i]? = none := getElem?_neg s i h
    simp [conc, byt, this]
theorem byteAt_enters : Enters Tryd.prog 58 := enters_mk Tryd.func58 (by decide) rfl
end Go.Proofs.YtehimiadpgbhmaaDoor

/-
  The longest name at a text's head; names and registers. Own work; the walks of chains of tests printed by a program of our own (tools/gen_t2.py).
-/
namespace Go.Proofs.YtehimiadpgbhmaaDoor
open Go.AM
set_option maxRecDepth 100000

def contB (c d : Int) : Bool := letB c || (digB c || (decide (c = 46) || ((decide (c = 43) || decide (c = 45)) && (letB d || digB d))))
def nameFrom (s : ByteArray) : Nat → Nat → Nat
  | i, 0 => i
  | i, d + 1 => if contB (byt s i) (byt s (i + 1)) = true then nameFrom s (i + 1) d else i
def nameN (s : ByteArray) : Nat := if s.size = 0 then 0 else if letB (byt s 0) = true then nameFrom s 1 (s.size - 1) else 0

theorem size_toList {s : ByteArray} (h : s.size = 0) : s.toList = [] := by
  obtain ⟨⟨l⟩⟩ := s
  have : l = [] := List.eq_nil_of_length_eq_zero h
  subst this; rw [ByteArray.toList_eq]
theorem toList_size {s : ByteArray} (h : s.toList = []) : s.size = 0 := by
  rw [ByteArray.toList_eq] at h
  show s.data.size = 0
  rw [← Array.length_toList, h]; rfl

set_option maxHeartbeats 1000000 in
theorem name_ok (s : ByteArray) (w : World) (hs : s.size ≤ 64) : Gives Tryd.prog 50 [.string s] w (.int .i64 (nameN s)) := by
  refine Gives.of_run Tryd.func50 rfl (by show 1 ≤ 52; decide) ?_
  by_cases h0 : s.size = 0
  · have e := size_toList h0
    refine RunF_sound tab_ok noX_local 100 [true, true] _ _ rfl ?_ ?_
    · simp [e]
    refine Run.retP tab_ok Tryd.func50 rfl trivial (fun M => ?_)
    simp [conc, nameN, h0]
  have e : ¬ s.toList = [] := fun h => h0 (toList_size h)
  refine RunF_sound tab_ok noX_local 100 [false] _ _ rfl ?_ ?_
  · simp [e]; omega
  refine Run.callFn (r := .bool (letB (byt s 0))) noX_local rfl rfl rfl rfl rfl rfl rfl letter_enters rfl (fun w' _ => letter_ok (byt s 0) w') ?_
  cases hl : letB (byt s 0) with
  | false =>
    refine RunF_sound tab_ok noX_local 100 [true] _ _ rfl ?_ ?_
    · simp
    refine Run.retP tab_ok Tryd.func50 rfl trivial (fun M => ?_)
    simp [conc, nameN, h0, hl]
  | true =>
  have hN : nameN s = nameFrom s 1 (s.size - 1) := by simp [nameN, h0, hl]
  rw [hN]
  refine RunF_sound tab_ok noX_local 100 [false] _ _ rfl ?_ ?_
  · simp
  suffices H : ∀ (d i : Nat), 1 ≤ i → i + d = s.size → nameFrom s 1 (s.size - 1) = nameFrom s i d → ∀ σ, inT σ.t [(0, .v (.string s)), (3, .v (.int .i64 (i : Int)))] → Run _ _ σ by
    exact H (s.size - 1) 1 (by omega) (by omega) rfl _ ⟨rfl, rfl, trivial⟩
  intro d
  induction d with
  | zero =>
    intro i hi1 hi hr σ ht
    refine Run.to ?_ ht (h' := []) trivial (n' := 0)
    refine RunF_sound tab_ok noX_local 100 [] _ _ rfl ?_ ?_
    · simp
    refine Run.callFn (r := .int .u8 (byt s i)) noX_local rfl rfl rfl rfl rfl rfl rfl byteAt_enters rfl (fun w' _ => byteAt_ok s i w') ?_
    refine RunF_sound tab_ok noX_local 100 [] _ _ rfl ?_ ?_
    · simp
    refine Run.callFn (r := .int .u8 (byt s (i + 1))) noX_local rfl rfl rfl rfl rfl rfl rfl byteAt_enters rfl (fun w' _ => by have := byteAt_ok s (i + 1) w'; rw [← wrap_succ (show i < 9223372036854775807 by omega)] at this; exact this) ?_
    refine RunF_sound tab_ok noX_local 100 [true] _ _ rfl ?_ ?_
    · simp; omega
    exact Run.retP tab_ok Tryd.func50 rfl trivial (fun M => by rw [hr]; rfl)
  | succ d ih =>
    intro i hi1 hi hr σ ht
    refine Run.to ?_ ht (h' := []) trivial (n' := 0)
    refine RunF_sound tab_ok noX_local 100 [] _ _ rfl ?_ ?_
    · simp
    refine Run.callFn (r := .int .u8 (byt s i)) noX_local rfl rfl rfl rfl rfl rfl rfl byteAt_enters rfl (fun w' _ => byteAt_ok s i w') ?_
    refine RunF_sound tab_ok noX_local 100 [] _ _ rfl ?_ ?_
    · simp
    refine Run.callFn (r := .int .u8 (byt s (i + 1))) noX_local rfl rfl rfl rfl rfl rfl rfl byteAt_enters rfl (fun w' _ => by have := byteAt_ok s (i + 1) w'; rw [← wrap_succ (show i < 9223372036854775807 by omega)] at this; exact this) ?_
    have hgo : contB (byt s i) (byt s (i + 1)) = true → nameFrom s i (d + 1) = nameFrom s (i + 1) d := fun h => by rw [nameFrom, if_pos h]
    have hst : contB (byt s i) (byt s (i + 1)) = false → nameFrom s i (d + 1) = i := fun h => by rw [nameFrom, if_neg (by rw [h]; exact Bool.false_ne_true)]
    have hnx := fun h => ih (i + 1) (by omega) (by omega) (hr.trans (hgo h))
    generalize byt s i = c at *
    generalize byt s (i + 1) = e at *
    refine RunF_sound tab_ok noX_local 100 [false] _ _ rfl ?_ ?_
    · simp; omega
    refine Run.callFn (r := .bool (letB c)) noX_local rfl rfl rfl rfl rfl rfl rfl letter_enters rfl (fun w' _ => letter_ok c w') ?_

    cases h1 : letB c with
    | true =>
      refine RunF_sound tab_ok noX_local 100 [true, true] _ _ rfl ?_ ?_
      · simp
      exact hnx (by simp [contB, h1]) _ ⟨rfl, i64_eq (wrap_succ (by omega)), trivial⟩
    | false =>
      refine RunF_sound tab_ok noX_local 100 [false] _ _ rfl ?_ ?_
      · simp
      refine Run.callFn (r := .bool (digB c)) noX_local rfl rfl rfl rfl rfl rfl rfl digit_enters rfl (fun w' _ => digit_ok c w') ?_
      cases h2 : digB c with
      | true =>
        refine RunF_sound tab_ok noX_local 100 [true, true] _ _ rfl ?_ ?_
        · simp
        exact hnx (by simp [contB, h1, h2]) _ ⟨rfl, i64_eq (wrap_succ (by omega)), trivial⟩
      | false =>
        by_cases h3 : c = 46
        · subst h3
          refine RunF_sound tab_ok noX_local 100 [false, true] _ _ rfl ?_ ?_
          · simp
          exact hnx (by simp [contB, h1, h2]) _ ⟨rfl, i64_eq (wrap_succ (by omega)), trivial⟩
        · by_cases h4 : c = 43
          · subst h4
            refine RunF_sound tab_ok noX_local 100 [false, false, true] _ _ rfl ?_ ?_
            · simp
            refine Run.callFn (r := .bool (letB e)) noX_local rfl rfl rfl rfl rfl rfl rfl letter_enters rfl (fun w' _ => letter_ok e w') ?_
            cases h6 : letB e with
            | true =>
              refine RunF_sound tab_ok noX_local 100 [true, true] _ _ rfl ?_ ?_
              · simp
              exact hnx (by simp [contB, h1, h2, h6]) _ ⟨rfl, i64_eq (wrap_succ (by omega)), trivial⟩
            | false =>
              refine RunF_sound tab_ok noX_local 100 [false] _ _ rfl ?_ ?_
              · simp
              refine Run.callFn (r := .bool (digB e)) noX_local rfl rfl rfl rfl rfl rfl rfl digit_enters rfl (fun w' _ => digit_ok e w') ?_
              cases h7 : digB e with
              | true =>
                refine RunF_sound tab_ok noX_local 100 [true] _ _ rfl ?_ ?_
                · simp
                exact hnx (by simp [contB, h1, h2, h6, h7]) _ ⟨rfl, i64_eq (wrap_succ (by omega)), trivial⟩
              | false =>
                refine RunF_sound tab_ok noX_local 100 [false] _ _ rfl ?_ ?_
                · simp
                refine Run.retP tab_ok Tryd.func50 rfl trivial (fun M => ?_)
                rw [hr, hst (by simp [contB, h1, h2, h6, h7])]; rfl
          · by_cases h5 : c = 45
            · subst h5
              refine RunF_sound tab_ok noX_local 100 [false, false, false, true] _ _ rfl ?_ ?_
              · simp
              refine Run.callFn (r := .bool (letB e)) noX_local rfl rfl rfl rfl rfl rfl rfl letter_enters rfl (fun w' _ => letter_ok e w') ?_
              cases h6 : letB e with
              | true =>
                refine RunF_sound tab_ok noX_local 100 [true, true] _ _ rfl ?_ ?_
                · simp
                exact hnx (by simp [contB, h1, h2, h6]) _ ⟨rfl, i64_eq (wrap_succ (by omega)), trivial⟩
              | false =>
                refine RunF_sound tab_ok noX_local 100 [false] _ _ rfl ?_ ?_
                · simp
                refine Run.callFn (r := .bool (digB e)) noX_local rfl rfl rfl rfl rfl rfl rfl digit_enters rfl (fun w' _ => digit_ok e w') ?_
                cases h7 : digB e with
                | true =>
                  refine RunF_sound tab_ok noX_local 100 [true] _ _ rfl ?_ ?_
                  · simp
                  exact hnx (by simp [contB, h1, h2, h6, h7]) _ ⟨rfl, i64_eq (wrap_succ (by omega)), trivial⟩
                | false =>
                  refine RunF_sound tab_ok noX_local 100 [false] _ _ rfl ?_ ?_
                  · simp
                  refine Run.retP tab_ok Tryd.func50 rfl trivial (fun M => ?_)
                  rw [hr, hst (by simp [contB, h1, h2, h6, h7])]; rfl
            · skip
              refine RunF_sound tab_ok noX_local 100 [false, false, false, false, false] _ _ rfl ?_ ?_
              · simp [h3, h4, h5]
              refine Run.retP tab_ok Tryd.func50 rfl trivial (fun M => ?_)
              rw [hr, hst (by simp [contB, h1, h2, h3, h4, h5])]; rfl
theorem name_enters : Enters Tryd.prog 50 := enters_mk Tryd.func50 (by decide) rfl

def nameB (s : ByteArray) : Bool := decide (s.size ≠ 0 ∧ s.size ≤ 64 ∧ nameN s = s.size)
theorem isName_ok (s : ByteArray) (w : World) : Gives Tryd.prog 33 [.string s] w (.bool (nameB s)) := by
  refine Gives.of_run Tryd.func33 rfl (by show 1 ≤ 17; decide) ?_
  by_cases h0 : s.size = 0
  · have e := size_toList h0
    refine RunF_sound tab_ok noX_local 100 [false] _ _ rfl ?_ ?_
    · simp [e]
    refine Run.retP tab_ok Tryd.func33 rfl trivial (fun M => ?_)
    simp [conc, nameB, h0]
  have e : ¬ s.toList = [] := fun h => h0 (toList_size h)
  by_cases h1 : s.size ≤ 64
  · refine RunF_sound tab_ok noX_local 100 [true, true] _ _ rfl ?_ ?_
    · simp [e]; omega
    refine Run.callFn (r := .int .i64 (nameN s)) noX_local rfl rfl rfl rfl rfl rfl rfl name_enters rfl (fun w' _ => name_ok s w' h1) ?_
    refine RunF_sound tab_ok noX_local 100 [] _ _ rfl ?_ ?_
    · simp
    refine Run.retP tab_ok Tryd.func33 rfl trivial (fun M => ?_)
    by_cases h2 : nameN s = s.size
    · simp [conc, nameB, h0, h1, h2]
    · have : ¬ (nameN s : Int) = (s.size : Int) := by omega
      simp [conc, nameB, h2, this]
  · refine RunF_sound tab_ok noX_local 100 [true, false] _ _ rfl ?_ ?_
    · simp [e]; omega
    refine Run.retP tab_ok Tryd.func33 rfl trivial (fun M => ?_)
    simp [conc, nameB, h1]
theorem isName_enters : Enters Tryd.prog 33 := enters_mk Tryd.func33 (by decide) rfl

/-- The names of the registers. -/
def regs : List (List UInt8) := [[69, 65, 88], [69, 66, 88], [69, 67, 88], [69, 68, 88], [69, 83, 73], [69, 68, 73], [69, 66, 80], [69, 83, 80], [82, 56], [82, 57], [82, 49, 48], [82, 49, 49], [82, 49, 50], [82, 49, 51], [82, 49, 52], [82, 49, 53]]
def regB (s : ByteArray) : Bool := regs.any fun r => s.toList == r
set_option maxHeartbeats 2000000 in
theorem register_ok (s : ByteArray) (w : World) : Gives Tryd.prog 32 [.string s] w (.bool (regB s)) := by
  refine Gives.of_run Tryd.func32 rfl (by show 1 ≤ 21; decide) ?_
  by_cases h0 : s.toList = [69, 65, 88]
  · have hb : regB s = true := List.any_eq_true.2 ⟨[69, 65, 88], List.mem_of_getElem? (i := 0) rfl, by rw [h0]; decide⟩
    rw [hb]
    refine RunF_sound tab_ok noX_local 400 [true, true] _ _ rfl ?_ ?_
    · simp [h0]
    exact Run.retP tab_ok Tryd.func32 rfl trivial (fun M => rfl)
  by_cases h1 : s.toList = [69, 66, 88]
  · have hb : regB s = true := List.any_eq_true.2 ⟨[69, 66, 88], List.mem_of_getElem? (i := 1) rfl, by rw [h1]; decide⟩
    rw [hb]
    refine RunF_sound tab_ok noX_local 400 [false, true, true] _ _ rfl ?_ ?_
    · simp [h1]
    exact Run.retP tab_ok Tryd.func32 rfl trivial (fun M => rfl)
  by_cases h2 : s.toList = [69, 67, 88]
  · have hb : regB s = true := List.any_eq_true.2 ⟨[69, 67, 88], List.mem_of_getElem? (i := 2) rfl, by rw [h2]; decide⟩
    rw [hb]
    refine RunF_sound tab_ok noX_local 400 [false, false, true, true] _ _ rfl ?_ ?_
    · simp [h2]
    exact Run.retP tab_ok Tryd.func32 rfl trivial (fun M => rfl)
  by_cases h3 : s.toList = [69, 68, 88]
  · have hb : regB s = true := List.any_eq_true.2 ⟨[69, 68, 88], List.mem_of_getElem? (i := 3) rfl, by rw [h3]; decide⟩
    rw [hb]
    refine RunF_sound tab_ok noX_local 400 [false, false, false, true, true] _ _ rfl ?_ ?_
    · simp [h3]
    exact Run.retP tab_ok Tryd.func32 rfl trivial (fun M => rfl)
  by_cases h4 : s.toList = [69, 83, 73]
  · have hb : regB s = true := List.any_eq_true.2 ⟨[69, 83, 73], List.mem_of_getElem? (i := 4) rfl, by rw [h4]; decide⟩
    rw [hb]
    refine RunF_sound tab_ok noX_local 400 [false, false, false, false, true, true] _ _ rfl ?_ ?_
    · simp [h4]
    exact Run.retP tab_ok Tryd.func32 rfl trivial (fun M => rfl)
  by_cases h5 : s.toList = [69, 68, 73]
  · have hb : regB s = true := List.any_eq_true.2 ⟨[69, 68, 73], List.mem_of_getElem? (i := 5) rfl, by rw [h5]; decide⟩
    rw [hb]
    refine RunF_sound tab_ok noX_local 400 [false, false, false, false, false, true, true] _ _ rfl ?_ ?_
    · simp [h5]
    exact Run.retP tab_ok Tryd.func32 rfl trivial (fun M => rfl)
  by_cases h6 : s.toList = [69, 66, 80]
  · have hb : regB s = true := List.any_eq_true.2 ⟨[69, 66, 80], List.mem_of_getElem? (i := 6) rfl, by rw [h6]; decide⟩
    rw [hb]
    refine RunF_sound tab_ok noX_local 400 [false, false, false, false, false, false, true, true] _ _ rfl ?_ ?_
    · simp [h6]
    exact Run.retP tab_ok Tryd.func32 rfl trivial (fun M => rfl)
  by_cases h7 : s.toList = [69, 83, 80]
  · have hb : regB s = true := List.any_eq_true.2 ⟨[69, 83, 80], List.mem_of_getElem? (i := 7) rfl, by rw [h7]; decide⟩
    rw [hb]
    refine RunF_sound tab_ok noX_local 400 [false, false, false, false, false, false, false, true, true] _ _ rfl ?_ ?_
    · simp [h7]
    exact Run.retP tab_ok Tryd.func32 rfl trivial (fun M => rfl)
  by_cases h8 : s.toList = [82, 56]
  · have hb : regB s = true := List.any_eq_true.2 ⟨[82, 56], List.mem_of_getElem? (i := 8) rfl, by rw [h8]; decide⟩
    rw [hb]
    refine RunF_sound tab_ok noX_local 400 [false, false, false, false, false, false, false, false, true, true] _ _ rfl ?_ ?_
    · simp [h8]
    exact Run.retP tab_ok Tryd.func32 rfl trivial (fun M => rfl)
  by_cases h9 : s.toList = [82, 57]
  · have hb : regB s = true := List.any_eq_true.2 ⟨[82, 57], List.mem_of_getElem? (i := 9) rfl, by rw [h9]; decide⟩
    rw [hb]
    refine RunF_sound tab_ok noX_local 400 [false, false, false, false, false, false, false, false, false, true, true] _ _ rfl ?_ ?_
    · simp [h9]
    exact Run.retP tab_ok Tryd.func32 rfl trivial (fun M => rfl)
  by_cases h10 : s.toList = [82, 49, 48]
  · have hb : regB s = true := List.any_eq_true.2 ⟨[82, 49, 48], List.mem_of_getElem? (i := 10) rfl, by rw [h10]; decide⟩
    rw [hb]
    refine RunF_sound tab_ok noX_local 400 [false, false, false, false, false, false, false, false, false, false, true, true] _ _ rfl ?_ ?_
    · simp [h10]
    exact Run.retP tab_ok Tryd.func32 rfl trivial (fun M => rfl)
  by_cases h11 : s.toList = [82, 49, 49]
  · have hb : regB s = true := List.any_eq_true.2 ⟨[82, 49, 49], List.mem_of_getElem? (i := 11) rfl, by rw [h11]; decide⟩
    rw [hb]
    refine RunF_sound tab_ok noX_local 400 [false, false, false, false, false, false, false, false, false, false, false, true, true] _ _ rfl ?_ ?_
    · simp [h11]
    exact Run.retP tab_ok Tryd.func32 rfl trivial (fun M => rfl)
  by_cases h12 : s.toList = [82, 49, 50]
  · have hb : regB s = true := List.any_eq_true.2 ⟨[82, 49, 50], List.mem_of_getElem? (i := 12) rfl, by rw [h12]; decide⟩
    rw [hb]
    refine RunF_sound tab_ok noX_local 400 [false, false, false, false, false, false, false, false, false, false, false, false, true, true] _ _ rfl ?_ ?_
    · simp [h12]
    exact Run.retP tab_ok Tryd.func32 rfl trivial (fun M => rfl)
  by_cases h13 : s.toList = [82, 49, 51]
  · have hb : regB s = true := List.any_eq_true.2 ⟨[82, 49, 51], List.mem_of_getElem? (i := 13) rfl, by rw [h13]; decide⟩
    rw [hb]
    refine RunF_sound tab_ok noX_local 400 [false, false, false, false, false, false, false, false, false, false, false, false, false, true, true] _ _ rfl ?_ ?_
    · simp [h13]
    exact Run.retP tab_ok Tryd.func32 rfl trivial (fun M => rfl)
  by_cases h14 : s.toList = [82, 49, 52]
  · have hb : regB s = true := List.any_eq_true.2 ⟨[82, 49, 52], List.mem_of_getElem? (i := 14) rfl, by rw [h14]; decide⟩
    rw [hb]
    refine RunF_sound tab_ok noX_local 400 [false, false, false, false, false, false, false, false, false, false, false, false, false, false, true, true] _ _ rfl ?_ ?_
    · simp [h14]
    exact Run.retP tab_ok Tryd.func32 rfl trivial (fun M => rfl)
  by_cases h15 : s.toList = [82, 49, 53]
  · have hb : regB s = true := List.any_eq_true.2 ⟨[82, 49, 53], List.mem_of_getElem? (i := 15) rfl, by rw [h15]; decide⟩
    rw [hb]
    refine RunF_sound tab_ok noX_local 400 [false, false, false, false, false, false, false, false, false, false, false, false, false, false, false, true] _ _ rfl ?_ ?_
    · simp [h15]
    exact Run.retP tab_ok Tryd.func32 rfl trivial (fun M => rfl)
  have hb : regB s = false := by
    rw [Bool.eq_false_iff]; intro h
    obtain ⟨r, hr, he⟩ := List.any_eq_true.1 h
    have he := eq_of_beq he; subst he
    simp only [regs, List.mem_cons, List.not_mem_nil, or_false, h0, h1, h2, h3, h4, h5, h6, h7, h8, h9, h10, h11, h12, h13, h14, h15] at hr
  rw [hb]
  refine RunF_sound tab_ok noX_local 400 [false, false, false, false, false, false, false, false, false, false, false, false, false, false, false, false] _ _ rfl ?_ ?_
  · simp [h0, h1, h2, h3, h4, h5, h6, h7, h8, h9, h10, h11, h12, h13, h14, h15]
  exact Run.retP tab_ok Tryd.func32 rfl trivial (fun M => rfl)
theorem register_enters : Enters Tryd.prog 32 := enters_mk Tryd.func32 (by decide) rfl
end Go.Proofs.YtehimiadpgbhmaaDoor
