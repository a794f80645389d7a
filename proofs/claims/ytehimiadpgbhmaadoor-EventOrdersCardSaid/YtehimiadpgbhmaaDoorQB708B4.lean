/-
  Own work, merged: LBITS, V0, E0d, V1, X0, X1, X2, X3, E0, E1.
-/
import Derived.AtR
import Derived.Below
import Derived.ChangeKeysEq
import Derived.KernelRfl
import Derived.Laws.AppendOwn
import Derived.Laws.BytesString
import Derived.Laws.Cells
import Derived.Laws.CopyRow
import Derived.Laws.Entries
import Derived.Laws.Rows
import Derived.Laws.Small
import Derived.Laws.StructEq
import Derived.Lib.TrailingZeros
import Derived.Maps.AppendAt
import Derived.Orders
import Derived.RangeFuncRecord
import Derived.Test.YtehimiadpgbhmaaDoorProg
import Derived.Test.YtehimiadpgbhmaaDoorQFECFE8
/-
  The bits of a word, one after another; the lowest one taken away. Plain arithmetic; of no program. Own work.
-/
namespace Go.AM

/-- The places of a word's one bits, rising. -/
def bitsL (x : BitVec 64) : List Nat := (List.range 64).filter fun i => x.getLsbD i

/-- The lowest one bit's place. -/
def tz (x : BitVec 64) : Nat := Go.Lib.ctz 64 x.toNat

theorem tz_parts (x : BitVec 64) (h : x ≠ 0#64) : ∃ m, x.toNat = 2 ^ tz x * (2 * m + 1) ∧ tz x < 64 := by
  have h0 : x.toNat ≠ 0 := fun e => h (BitVec.eq_of_toNat_eq (by simpa using e))
  have := Go.Lib.ctzFrom_spec 64 x.toNat (by omega) x.isLt
  unfold tz Go.Lib.ctz
  rw [if_neg h0]
  exact this

theorem testBit_parts (k m i : Nat) : (2 ^ k * (2 * m + 1)).testBit i = (decide (i = k) || (decide (k < i) && m.testBit (i - k - 1))) := by
  rw [Nat.mul_comm, Nat.testBit_mul_two_pow]
  by_cases hik : k ≤ i
  · by_cases he : i = k
    · subst he; simp
    · obtain ⟨j, rfl⟩ : ∃ j, i = k + (j + 1) := ⟨i - k - 1, by omega⟩
      have e3 : k + (j + 1) - k = j + 1 := by omega
      have e4 : j + 1 - 1 = j := by omega
      have d1 : (2 * m + 1) / 2 = m := by omega
      rw [e3, e4, Nat.testBit_succ, d1]
      have : ¬ k + (j + 1) = k := by omega
      have h2 : k < k + (j + 1) := by omega
      have h3 : k ≤ k + (j + 1) := by omega
      simp [h2, h3]
  · have : ¬ i = k := by omega
    have h2 : ¬ k < i := by omega
    simp [hik, this, h2]

theorem testBit_pred (k m i : Nat) : (2 ^ k * (2 * m + 1) - 1).testBit i = (decide (i < k) || (decide (k < i) && m.testBit (i - k - 1))) := by
  have hpos : 0 < 2 ^ k := Nat.two_pow_pos k
  have e : 2 ^ k * (2 * m + 1) - 1 = 2 ^ k * (2 * m) + (2 ^ k - 1) := by
    rw [Nat.mul_add, Nat.mul_one]; omega
  rw [e, Nat.testBit_two_pow_mul_add _ (by omega)]
  by_cases hik : i < k
  · have : ¬ k < i := by omega
    simp [hik, Nat.testBit_two_pow_sub_one]
  · by_cases he : i = k
    · subst he; simp
    · obtain ⟨j, rfl⟩ : ∃ j, i = k + (j + 1) := ⟨i - k - 1, by omega⟩
      have e3 : k + (j + 1) - k = j + 1 := by omega
      have e4 : j + 1 - 1 = j := by omega
      have d1 : (2 * m) / 2 = m := by omega
      have h2 : k < k + (j + 1) := by omega
      simp only [hik, if_false, decide_false, Bool.false_or, h2, decide_true, Bool.true_and]
      rw [e3, e4, Nat.testBit_succ, d1]

theorem get_low (x : BitVec 64) (h : x ≠ 0#64) (i : Nat) : x.getLsbD i = true → tz x ≤ i := by
  obtain ⟨m, hm, _⟩ := tz_parts x h
  intro hi
  rw [BitVec.getLsbD, hm, testBit_parts] at hi
  simp at hi
  omega

theorem get_tz (x : BitVec 64) (h : x ≠ 0#64) : x.getLsbD (tz x) = true := by
  obtain ⟨m, hm, _⟩ := tz_parts x h
  rw [BitVec.getLsbD, hm, testBit_parts]
  simp

theorem tz_lt (x : BitVec 64) (h : x ≠ 0#64) : tz x < 64 := (tz_parts x h).elim fun _ h => h.2

/-- The lowest one bit taken away. -/
def dropLow (x : BitVec 64) : BitVec 64 := x &&& (x - 1#64)

theorem get_dropLow (x : BitVec 64) (h : x ≠ 0#64) (i : Nat) : (dropLow x).getLsbD i = (x.getLsbD i && !decide (i = tz x)) := by
  obtain ⟨m, hm, hk⟩ := tz_parts x h
  have h0 : x.toNat ≠ 0 := fun e => h (BitVec.eq_of_toNat_eq (by simpa using e))
  have e1 : (x - 1#64).toNat = x.toNat - 1 := by
    rw [BitVec.toNat_sub]
    have := x.isLt
    have h1 : (1#64).toNat = 1 := rfl
    rw [h1]; omega
  unfold dropLow
  rw [BitVec.getLsbD_and, BitVec.getLsbD, BitVec.getLsbD, e1, hm, testBit_parts, testBit_pred]
  by_cases h1 : i = tz x
  · subst h1; simp
  · by_cases h2 : tz x < i
    · cases m.testBit (i - tz x - 1) <;> simp [h1, h2]
    · simp [h1, h2]

theorem bitsL_zero : bitsL 0#64 = [] := by
  unfold bitsL
  rw [List.filter_eq_nil_iff]
  intro i _; simp

theorem range_split (n : Nat) (p q : Nat → Bool) (k : Nat) (hk : k < n) (hlow : ∀ i, i < k → p i = false) (hp : p k = true) (hq : ∀ i, q i = (p i && !decide (i = k))) :
    (List.range n).filter p = k :: (List.range n).filter q := by
  have e : List.range n = List.range k ++ (k :: (List.range n).drop (k + 1)) := by
    have := List.take_append_drop k (List.range n)
    rw [List.take_range, Nat.min_eq_left (by omega), List.drop_eq_getElem_cons (by simpa using hk)] at this
    simpa using this.symm
  have hd : ∀ i ∈ (List.range n).drop (k + 1), k < i := by
    intro i hi
    rw [List.mem_iff_getElem] at hi
    obtain ⟨j, hj, rfl⟩ := hi
    simp; omega
  have f1 : (List.range k).filter p = [] := by
    rw [List.filter_eq_nil_iff]
    intro i hi; rw [hlow i (List.mem_range.1 hi)]; simp
  have f2 : (List.range k).filter q = [] := by
    rw [List.filter_eq_nil_iff]
    intro i hi; rw [hq, hlow i (List.mem_range.1 hi)]; simp
  have f3 : ((List.range n).drop (k + 1)).filter q = ((List.range n).drop (k + 1)).filter p := by
    refine List.filter_congr fun i hi => ?_
    have := hd i hi
    rw [hq]
    have : ¬ i = k := by omega
    simp [this]
  rw [e, List.filter_append, List.filter_append, f1, f2, List.nil_append, List.nil_append, List.filter_cons, List.filter_cons, if_pos hp]
  have : q k = false := by rw [hq]; simp
  rw [this, if_neg (by simp), f3]

theorem bitsL_cons (x : BitVec 64) (h : x ≠ 0#64) : bitsL x = tz x :: bitsL (dropLow x) := by
  refine range_split 64 _ _ _ (tz_lt x h) ?_ (get_tz x h) (get_dropLow x h)
  intro i hi
  cases hb : x.getLsbD i with
  | false => rfl
  | true => have := get_low x h i hb; omega

theorem bitsL_mem (x : BitVec 64) (i : Nat) : i ∈ bitsL x ↔ x.getLsbD i = true := by
  unfold bitsL
  rw [List.mem_filter, List.mem_range]
  constructor
  · exact fun h => h.2
  · intro h
    refine ⟨?_, h⟩
    rcases Nat.lt_or_ge i 64 with h1 | h1
    · exact h1
    · rw [BitVec.getLsbD_of_ge _ _ h1] at h; cases h

theorem bitsL_len_le (x : BitVec 64) : (bitsL x).length ≤ 64 := by
  have := List.length_filter_le (fun i => x.getLsbD i) (List.range 64)
  simpa [bitsL] using this

theorem pop_filter : ∀ (n x k : Nat), pop n x = ((List.range' k n).filter fun i => x.testBit (i - k)).length
  | 0, _, _ => rfl
  | n + 1, x, k => by
    rw [List.range'_succ, List.filter_cons]
    have h0 : x.testBit (k - k) = decide (x % 2 = 1) := by rw [Nat.sub_self, Nat.testBit_zero]
    have ih := pop_filter n (x / 2) (k + 1)
    have e : (List.range' (k + 1) n).filter (fun i => x.testBit (i - k)) = (List.range' (k + 1) n).filter (fun i => (x / 2).testBit (i - (k + 1))) := by
      refine List.filter_congr fun i hi => ?_
      have := List.mem_range'_1.1 hi
      rw [show i - k = (i - (k + 1)) + 1 by omega, Nat.testBit_succ]
    rw [e, h0]
    simp only [pop]
    by_cases h : x % 2 = 1
    · simp [h, ih]; omega
    · have : x % 2 = 0 := by omega
      simp [this, ih]

theorem pop_bits (x : BitVec 64) : pop 64 x.toNat = (bitsL x).length := by
  rw [pop_filter 64 _ 0]
  unfold bitsL
  rw [List.range_eq_range']
  rfl

end Go.AM

/-
  Relations by rows and by tests of their pairs: plain laws, taken over from the texts of layer 2. Own work.
-/
namespace Go.AM
namespace Rl
/-- A relation by its rows. -/
def by_ (n : Int) (f : Nat → BitVec 64) : Rl := ⟨n, Vector.ofFn fun i => f i.1⟩

theorem row_by (n : Int) (f : Nat → BitVec 64) (i : Nat) : (by_ n f).row i = if i < 64 then f i else 0#64 := by
  unfold row by_
  split
  · simp
  · rfl

theorem n_by (n : Int) (f : Nat → BitVec 64) : (by_ n f).n = n := rfl

theorem by_congr {n : Int} {f g : Nat → BitVec 64} (h : ∀ i, i < 64 → f i = g i) : by_ n f = by_ n g := by
  refine ext' rfl fun i hi => ?_
  rw [row_by, row_by, if_pos hi, if_pos hi, h i hi]

theorem set_by (n : Int) (f : Nat → BitVec 64) (i : Nat) (x : BitVec 64) : (by_ n f).setRow i x = by_ n (fun j => if i = j then x else f j) := by
  refine ext' (by rw [n_setRow]; rfl) fun j hj => ?_
  rw [row_setRow, row_by, row_by, if_pos hj, if_pos hj]
  by_cases h : i = j
  · subst h; simp [hj]
  · simp [h]

theorem void_by (n : Int) : void n = by_ n (fun _ => 0#64) := by
  refine ext' rfl fun i _ => ?_
  rw [row_void, row_by]; split <;> rfl

end Rl

theorem bit_iff (x : BitVec 64) (k : Nat) : (x >>> k &&& 1#64) = 1#64 ↔ x.getLsbD k = true := by
  constructor
  · intro h
    have := congrArg (fun y => BitVec.getLsbD y 0) h
    simpa using this
  · intro h
    apply BitVec.eq_of_getLsbD_eq
    intro i hi
    simp only [BitVec.getLsbD_and, BitVec.getLsbD_ushiftRight, BitVec.getLsbD_one]
    by_cases h0 : i = 0
    · subst h0; simp [h]
    · simp [h0]

theorem relV_one' (r : Rl) : (∀ c ∈ relV r, c.oneCell' = true) ↔ True := iff_true_intro (relV_one r)

/-- The word whose bits are a test's. -/
def bitsB (f : Nat → Bool) : BitVec 64 := (List.range 64).foldl (fun x i => if f i then x ||| 1#64 <<< i else x) 0#64

theorem one_shl_get (k j : Nat) (hk : k < 64) : (1#64 <<< k).getLsbD j = decide (j = k) := by
  rw [BitVec.getLsbD_shiftLeft, BitVec.getLsbD_one]
  by_cases h : j = k
  · subst h; simp [hk]
  · by_cases h1 : j < k
    · simp [h1, h]
    · have : ¬ j - k = 0 := by omega
      simp [this, h]

theorem bitsB_fold (f : Nat → Bool) : ∀ (l : List Nat) (x : BitVec 64) (j : Nat), (∀ i ∈ l, i < 64) →
    (l.foldl (fun x i => if f i then x ||| 1#64 <<< i else x) x).getLsbD j = (x.getLsbD j || (decide (j ∈ l) && f j))
  | [], x, j, _ => by simp
  | i :: l, x, j, h => by
    rw [List.foldl_cons, bitsB_fold f l _ j (fun i hi => h i (List.mem_cons_of_mem _ hi))]
    have hi := h i (List.mem_cons_self ..)
    by_cases hf : f i = true
    · rw [if_pos hf, BitVec.getLsbD_or, one_shl_get i j hi]
      by_cases hj : j = i
      · subst hj; simp [hf]
      · simp [hj]
    · rw [if_neg hf]
      by_cases hj : j = i
      · subst hj
        have : f j = false := by simpa using hf
        simp [this]
      · simp [hj]

theorem bitsB_get (f : Nat → Bool) (j : Nat) : (bitsB f).getLsbD j = (decide (j < 64) && f j) := by
  unfold bitsB
  rw [bitsB_fold f _ _ j (fun i hi => List.mem_range.1 hi)]
  simp

namespace Rl
/-- The relation over n numbers in which those pairs stand that pass a test. -/
def gen (n : Int) (q : Nat → Nat → Bool) : Rl := by_ n fun i => bitsB (q i)

theorem n_gen (n : Int) (q : Nat → Nat → Bool) : (gen n q).n = n := rfl

theorem has_gen (n : Int) (q : Nat → Nat → Bool) (a b : Nat) : (gen n q).has a b = (decide (a < 64 ∧ b < 64) && q a b) := by
  unfold has gen
  rw [row_by]
  by_cases ha : a < 64
  · rw [if_pos ha, bitsB_get]; simp [ha]
  · rw [if_neg ha]; simp [ha]

theorem gen_congr {n : Int} {q q' : Nat → Nat → Bool} (h : ∀ a b, a < 64 → b < 64 → q a b = q' a b) : gen n q = gen n q' :=
  ext_has rfl fun a b ha hb => by rw [has_gen, has_gen, h a b ha hb]

theorem has_lt (r : Rl) {a b : Nat} (h : r.has a b = true) : a < 64 ∧ b < 64 := by
  constructor
  · rcases Nat.lt_or_ge a 64 with h1 | h1
    · exact h1
    · rw [has, row_ge _ h1] at h; simp at h
  · rcases Nat.lt_or_ge b 64 with h1 | h1
    · exact h1
    · rw [has, BitVec.getLsbD_of_ge _ _ h1] at h; cases h

theorem gen_void (n : Int) : void n = gen n fun _ _ => false := by
  apply ext_has
  · rfl
  · intro a b _ _
    rw [has_gen, has, row_void]; simp

theorem gen_add (n : Int) (q : Nat → Nat → Bool) (a b : Nat) (ha : a < 64) (hb : b < 64) :
    (gen n q).setRow a ((gen n q).row a ||| 1#64 <<< b) = gen n fun x y => q x y || (decide (x = a) && decide (y = b)) := by
  refine ext_has (n_setRow _ _ _) fun x y hx hy => ?_
  rw [has_gen, has, row_setRow]
  by_cases h : a = x
  · subst h
    rw [if_pos ⟨rfl, ha⟩, BitVec.getLsbD_or, one_shl_get b y hb]
    have : ((gen n q).row a).getLsbD y = (gen n q).has a y := rfl
    rw [this, has_gen]
    simp [ha, hy]
  · rw [if_neg (by simp [h])]
    have : ((gen n q).row x).getLsbD y = (gen n q).has x y := rfl
    rw [this, has_gen]
    simp [hx, hy, Ne.symm h]

theorem has_setRow (r : Rl) (a : Nat) (w : BitVec 64) (x y : Nat) : (r.setRow a w).has x y = if a = x ∧ a < 64 then w.getLsbD y else r.has x y := by
  rw [has, row_setRow]; split <;> rfl

/-- Those pairs of a test that have been looked at: all of the rows below a, of row a those below b. -/
def seen (p : Nat → Nat → Bool) (a b : Nat) : Nat → Nat → Bool := fun x y => p x y && (decide (x < a) || (decide (x = a) && decide (y < b)))

theorem seen_yes {n : Int} {p : Nat → Nat → Bool} {a b : Nat} (ha : a < 64) (hb : b < 64) (h : p a b = true) :
    (gen n (seen p a b)).setRow a ((gen n (seen p a b)).row a ||| 1#64 <<< b) = gen n (seen p a (b + 1)) := by
  rw [gen_add _ _ _ _ ha hb]
  refine gen_congr fun x y _ _ => ?_
  unfold seen
  by_cases hx : x = a
  · subst hx
    by_cases hy : y = b
    · subst hy; simp [h]
    · have e : decide (y < b + 1) = decide (y < b) := decide_eq_decide.2 (by omega)
      simp [hy, e]
  · simp [hx]

theorem seen_no {n : Int} {p : Nat → Nat → Bool} {a b : Nat} (h : p a b = false) : gen n (seen p a b) = gen n (seen p a (b + 1)) := by
  refine gen_congr fun x y _ _ => ?_
  unfold seen
  by_cases hx : x = a
  · subst hx
    by_cases hy : y = b
    · subst hy; simp [h]
    · have e : decide (y < b + 1) = decide (y < b) := decide_eq_decide.2 (by omega)
      simp [e]
  · simp [hx]

theorem seen_row {n : Int} {p : Nat → Nat → Bool} {a b : Nat} (hp : ∀ x y, p x y = true → y < b) : gen n (seen p a b) = gen n (seen p (a + 1) 0) := by
  refine gen_congr fun x y _ _ => ?_
  unfold seen
  cases hxy : p x y with
  | false => simp
  | true =>
    have := hp x y hxy
    rw [Bool.eq_iff_iff]
    simp
    omega

theorem seen_0 (n : Int) (p : Nat → Nat → Bool) : gen n (seen p 0 0) = void n := by
  rw [gen_void]
  refine gen_congr fun x y _ _ => ?_
  unfold seen; simp

theorem seen_all {n : Int} {p : Nat → Nat → Bool} {a : Nat} (hp : ∀ x y, p x y = true → x < a) : gen n (seen p a 0) = gen n p := by
  refine gen_congr fun x y _ _ => ?_
  unfold seen
  cases hxy : p x y with
  | false => simp
  | true => have := hp x y hxy; simp [this]

end Rl
end Go.AM
namespace Go.Proofs.YtehimiadpgbhmaaDoor
open Go.AM
set_option maxRecDepth 100000

@[simp] theorem zrel : z32 = relV (Rl.void 0) := rfl
@[simp] theorem sz_int : tab.size 3 = some 1 := rfl
@[simp] theorem sz_rows : tab.size 30 = some 64 := rfl
@[simp] theorem splice_void (n : Int) : splice (relV (Rl.void 0)) 0 [.int .i64 n] = relV (Rl.void n) := rfl
/-- May a pair stand in a relation? -/
def okBit (r : Rl) (a b : Nat) : Prop := ¬ (r.has a b = true ∧ ((a : Int) ≥ r.n ∨ (b : Int) ≥ r.n))

theorem good_iff (r : Rl) (a : Nat) (h0 : 0 ≤ r.n) : good r a = true ↔ ∀ b, b < 64 → okBit r a b := by
  unfold good okBit Rl.has
  constructor
  · intro h b hb hbad
    simp only [Bool.not_eq_true', Bool.or_eq_false_iff, Bool.and_eq_false_iff, decide_eq_false_iff_not, bne_eq_false_iff_eq] at h
    obtain ⟨h1, h2⟩ := h
    rcases hbad.2 with h3 | h3
    · rcases h1 with h4 | h4
      · exact h4 h3
      · rw [h4] at hbad; simp at hbad
    · have := congrArg (fun x => BitVec.getLsbD x b) h2
      simp only [BitVec.getLsbD_and, BitVec.getLsbD_not, hbad.1, mask_get _ _ h0, BitVec.getLsbD_zero] at this
      simp at this
      omega
  · intro h
    simp only [Bool.not_eq_true', Bool.or_eq_false_iff, Bool.and_eq_false_iff, decide_eq_false_iff_not, bne_eq_false_iff_eq]
    constructor
    · by_cases c : (a : Int) ≥ r.n
      · right
        apply BitVec.eq_of_getLsbD_eq
        intro b hb
        have := h b hb
        rw [BitVec.getLsbD_zero]
        cases hh : (r.row a).getLsbD b
        · rfl
        · exact absurd ⟨hh, .inl c⟩ this
      · exact .inl c
    · apply BitVec.eq_of_getLsbD_eq
      intro b hb
      rw [BitVec.getLsbD_zero, BitVec.getLsbD_and, BitVec.getLsbD_not, mask_get _ _ h0]
      cases hh : (r.row a).getLsbD b
      · rfl
      · have := h b hb
        have h3 : (b : Int) < r.n := by
          rcases Int.lt_or_le (b : Int) r.n with h3 | h3
          · exact h3
          · exact absurd ⟨hh, .inr h3⟩ this
        simp [hb, h3]

open Classical in
/-- The relation, if it is right. -/
noncomputable def rightL (r : Rl) : Rl := if checkI r = 0 then r else Rl.void 0

theorem right_ok (r : Rl) (w : World) : Gives Tryd.prog 46 [encRel r] w (encRel (rightL r)) := by
  refine Gives.of_run Tryd.func46 rfl (by show 1 ≤ 8; decide) ?_
  refine RunF_sound tab_ok noX_local 100 [] _ _ rfl ?_ ?_
  · simp
  refine Run.callFn noX_local rfl rfl rfl rfl rfl rfl rfl check_enters rfl (fun w' _ => check_ok r w') ?_
  by_cases h : checkI r = 0
  · refine RunF_sound tab_ok noX_local 100 [false] _ _ rfl ?_ ?_
    · simp [h, segsVals, relV_one']
    · refine Run.retP tab_ok Tryd.func46 rfl ?_ (fun M => ?_)
      · simp
      rw [rightL, if_pos h]; rfl
  · refine RunF_sound tab_ok noX_local 100 [true] _ _ rfl ?_ ?_
    · simp [h, fillL, Value.cells, segsVals, relV_one']
    · refine Run.retP tab_ok Tryd.func46 rfl ?_ (fun M => ?_)
      · simp [fillL, Value.cells]
      rw [rightL, if_neg h]; rfl

theorem right_enters : Enters Tryd.prog 46 := enters_mk Tryd.func46 (by decide) rfl

/-- A right relation's bounds. -/
theorem rightL_n (r : Rl) : 0 ≤ (rightL r).n ∧ (rightL r).n ≤ 64 := by
  unfold rightL
  split
  · rename_i h
    unfold checkI at h
    split at h
    · cases h
    · omega
  · simp [Rl.void]

theorem good_void : ∀ i, i < 64 → good (Rl.void 0) i = true := by
  intro i _
  unfold good
  rw [Rl.row_void]
  simp

theorem rightL_good (r : Rl) : ∀ i, i < 64 → good (rightL r) i = true := by
  unfold rightL
  split
  · rename_i h
    unfold checkI at h
    split at h
    · cases h
    · split at h
      · rename_i h2; exact h2
      · cases h
  · exact good_void

theorem checkI_right (r : Rl) : checkI (rightL r) = 0 := by
  have h := rightL_n r
  unfold checkI
  rw [if_neg (by omega), if_pos (rightL_good r)]

theorem rightL_of (r : Rl) (h : checkI r = 0) : rightL r = r := by unfold rightL; rw [if_pos h]

theorem rightL_idem (r : Rl) : rightL (rightL r) = rightL r := rightL_of _ (checkI_right r)

/-- Where a right relation's pairs are. -/
theorem right_has (r : Rl) (a b : Nat) (h : (rightL r).has a b = true) : (a : Int) < (rightL r).n ∧ (b : Int) < (rightL r).n := by
  have hn := rightL_n r
  have ha : a < 64 := by
    rcases Nat.lt_or_ge a 64 with h1 | h1
    · exact h1
    · rw [Rl.has, Rl.row_ge _ h1] at h; simp at h
  have hb : b < 64 := by
    rcases Nat.lt_or_ge b 64 with h1 | h1
    · exact h1
    · rw [Rl.has, BitVec.getLsbD_of_ge _ _ h1] at h; cases h
  have := (good_iff (rightL r) a hn.1).1 (rightL_good r a ha) b hb
  unfold okBit at this
  by_cases h1 : (a : Int) < (rightL r).n
  · by_cases h2 : (b : Int) < (rightL r).n
    · exact ⟨h1, h2⟩
    · exact absurd ⟨h, .inr (by omega)⟩ this
  · exact absurd ⟨h, .inl (by omega)⟩ this

theorem right_row0 (r : Rl) (i : Nat) (h : (rightL r).n ≤ (i : Int)) : (rightL r).row i = 0#64 := by
  apply BitVec.eq_of_getLsbD_eq
  intro j _
  rw [BitVec.getLsbD_zero]
  cases hb : ((rightL r).row i).getLsbD j with
  | false => rfl
  | true => have := right_has r i j hb; omega

theorem relV_tail_one (r : Rl) : (∀ c ∈ (relV r).tail, c.oneCell' = true) ↔ True := iff_true_intro fun c hc => relV_one r c (List.mem_of_mem_tail hc)

theorem by_row (r : Rl) : Rl.by_ r.n r.row = r := by
  apply Rl.ext'
  · exact Rl.n_by _ _
  · intro i hi
    rw [Rl.row_by, if_pos hi]

def notP (r : Rl) (k : Nat) : Rl := Rl.by_ r.n fun i => if i < k then mask r.n &&& ~~~(r.row i) else r.row i

theorem n_notP (r : Rl) (k : Nat) : (notP r k).n = r.n := Rl.n_by _ _

theorem notP_0 (r : Rl) : notP r 0 = r := by
  unfold notP
  conv => rhs; rw [← by_row r]
  exact Rl.by_congr fun i _ => by simp

theorem notP_row (r : Rl) (k : Nat) (hk : k < 64) : (notP r k).row k = r.row k := by
  rw [notP, Rl.row_by, if_pos hk, if_neg (by omega)]

theorem notP_step (r : Rl) (k : Nat) : (notP r k).setRow k (mask r.n &&& ~~~(r.row k)) = notP r (k + 1) := by
  unfold notP
  rw [Rl.set_by]
  refine Rl.by_congr fun i _ => ?_
  by_cases h : k = i
  · subst h; simp
  · rw [if_neg h]
    have : (i < k) ↔ (i < k + 1) := by omega
    simp only [this]

noncomputable def notL (r : Rl) : Rl := notP (rightL r) (rightL r).n.toNat

theorem not_ok (r : Rl) (w : World) : Gives Tryd.prog 41 [encRel r] w (encRel (notL r)) := by
  refine Gives.of_run Tryd.func41 rfl (by show 1 ≤ 24; decide) ?_
  refine RunF_sound tab_ok noX_local 100 [] _ _ rfl ?_ ?_
  · simp
  refine Run.callFn noX_local rfl rfl rfl rfl rfl rfl rfl right_enters rfl (fun w' _ => right_ok r w') ?_
  have hn := rightL_n r
  unfold notL
  generalize rightL r = R at hn
  refine RunF_sound tab_ok noX_local 100 [] _ _ rfl ?_ ?_
  · simp [segsVals, relV_one']
  suffices H : ∀ (d k : Nat), (k : Int) + d = R.n → ∀ σ, inT σ.t [(1, .ptr 0 0), (2, .ptr 1 0), (7, .v (.int .i64 R.n)), (8, .v (.int .i64 (k : Int)))] →
      inT σ.h [(0, .cells 32 [.vals 65 (relV (notP R k))]), (1, .cells 32 [.vals 65 (relV (Rl.void 0))])] → Run _ _ σ by
    refine H R.n.toNat 0 (by omega) _ ⟨rfl, rfl, ?_, rfl, trivial⟩ ⟨?_, rfl, trivial⟩
    · simp [lk]
    · rw [notP_0]; simp [lk]
  intro d
  induction d with
  | zero =>
    intro k hk σ ht hh
    refine Run.to ?_ ht hh (n' := 2)
    refine RunF_sound tab_ok noX_local 100 [false] _ _ rfl ?_ ?_
    · simp [relV_one', segsVals]; omega
    · refine Run.retP tab_ok Tryd.func41 rfl ?_ (fun M => ?_)
      · simp
      have : R.n.toNat = k := by omega
      rw [this]; rfl
  | succ d ih =>
    intro k hk σ ht hh
    refine Run.to ?_ ht hh (n' := 2)
    have hk' : k < 64 := by omega
    refine RunF_sound tab_ok noX_local 100 [true] _ _ rfl ?_ ?_
    · simp; omega
    refine Run.drawA noX_local rfl [] [(0, .cells 32 [.vals 65 (relV (notP R k))])] rfl rfl ⟨rfl, trivial⟩ ?_
    refine RunOF_sound tab_ok noX_local rfl rfl 100 [] _ _ rfl ?_ ?_
    · simp [relV_get _ _ hk', intAt_row _ _ hk']; omega
    refine RunO.callFn (r := .int .u64 (un (mask R.n))) noX_local rfl rfl rfl rfl rfl rfl rfl rfl whole_enters rfl (fun w' _ => ?_) ?_
    · simp only [Nat.add_zero, Nat.sub_zero, intAt_0, n_notP]
      exact whole_ok R.n w' hn.1
    refine RunOF_sound tab_ok noX_local rfl rfl 2 [] _ _ rfl ?_ ?_
    · simp; omega
    refine RunO.effLast tab_ok noX_local rfl rfl rfl rfl ?_ (fun e => by cases e) rfl ?_
    · simp [okCell, Value.oneCell']; omega
    refine RunF_sound tab_ok noX_local 100 [] _ _ rfl ?_ ?_
    · simp
    refine ih (k + 1) (by omega) _ ⟨rfl, rfl, rfl, i64_eq (wrap_succ (by omega)), trivial⟩ ⟨congrArg (fun l => some (Blk.cells 32 [.vals 65 l])) ?_, rfl, trivial⟩
    have e1 : intAt (relV (notP R k)) (1 + k) = un (R.row k) := by rw [intAt_row _ _ hk', notP_row R k hk']
    simp [e1, relV_set _ _ hk', notP_step]

theorem not_enters : Enters Tryd.prog 41 := enters_mk Tryd.func41 (by decide) rfl

def pNot (R : Rl) (x y : Nat) : Bool := decide ((x : Int) < R.n ∧ (y : Int) < R.n) && !R.has x y

theorem has_row (r : Rl) (a b : Nat) : (r.row a).getLsbD b = r.has a b := rfl

theorem row0_of {R : Rl} (hR : rightL R = R) {i : Nat} (h : R.n ≤ (i : Int)) : R.row i = 0#64 := by
  have := right_row0 R i (by rw [hR]; exact h)
  rwa [hR] at this

theorem not_eq (r : Rl) : notL r = Rl.gen (rightL r).n (pNot (rightL r)) := by
  have hn := rightL_n r
  have hR := rightL_idem r
  unfold notL
  generalize rightL r = R at hn hR
  apply Rl.ext_has
  · rw [n_notP, Rl.n_gen]
  · intro x y hx hy
    rw [Rl.has_gen, decide_eq_true ⟨hx, hy⟩, Bool.true_and]
    show ((notP R R.n.toNat).row x).getLsbD y = _
    unfold notP pNot
    rw [Rl.row_by, if_pos hx]
    by_cases hlt : x < R.n.toNat
    · rw [if_pos hlt, BitVec.getLsbD_and, BitVec.getLsbD_not, mask_get _ _ hn.1, decide_eq_true hy, Bool.true_and, has_row]
      congr 1
      apply decide_eq_decide.2; omega
    · rw [if_neg hlt, row0_of hR (by omega), BitVec.getLsbD_zero, decide_eq_false (by omega), Bool.false_and]

theorem eqRow (r s : Rl) (w : World) : ∀ (is : List Nat), (∀ i ∈ is, i < 64) → ∃ b : Bool, (Op.eqItems 9998 29 1 (rowV r).toArray (rowV s).toArray is).run Tryd.prog w = .ok b w ∧ (b = true ↔ ∀ i ∈ is, r.row i = s.row i)
  | [], _ => ⟨true, by simp [Op.eqItems], by simp⟩
  | i :: is, h => by
    have hi : i < 64 := h i (by simp)
    have hu := tab_undP tab_ok (t := 29) (d := .int .u64) rfl
    have p : ∀ r : Rl, (part 29 (rowV r).toArray i).run Tryd.prog w = .ok (.int .u64 (un (r.row i))) w := fun r => by
      have := part_run tab_ok (P := Tryd.prog) (t := 29) (vs := (rowV r).toArray) (j := i) (p := _) (x := _) rfl (by rw [rowV_get r i hi, intAt_rowV r i hi]) w
      rw [this, intAt_rowV r i hi]
    have he : ∀ x y : Int, (Op.equalIn 9998 29 (.int .u64 x) (.int .u64 y)).run Tryd.prog w = .ok (x == y) w := fun x y => run_equalIn_int w 9997 _ _ _ _ _ hu
    obtain ⟨b, ih, hb⟩ := eqRow r s w is (fun j hj => h j (by simp [hj]))
    by_cases c : r.row i = s.row i
    · exact ⟨b, by simp [Op.eqItems, p, he, c, ih], by simp [hb, c]⟩
    · exact ⟨false, by simp [Op.eqItems, p, he, c], by simp [c]⟩

theorem eqRows (r s : Rl) (w : World) : ∃ b : Bool, (Op.equalIn 9999 30 (.agg (rowV r).toArray) (.agg (rowV s).toArray)).run Tryd.prog w = .ok b w ∧ (b = true ↔ ∀ i, i < 64 → r.row i = s.row i) := by
  have ha := tab_undP tab_ok (t := 30) (d := .array 64 29) rfl
  obtain ⟨i, hinfo⟩ : ∃ i, Tryd.prog.info? 29 = some i := by
    obtain ⟨_, x, hx, _⟩ := tab_ok 29 _ (rfl : lk tab 29 = some _)
    exact ⟨x, hx⟩
  have hc : Tryd.prog.cellsOf 29 = 1 := by kernel_rfl
  obtain ⟨b, hb, hb'⟩ := eqRow r s w (List.range 64) (fun i hi => List.mem_range.1 hi)
  refine ⟨b, ?_, hb'.trans ⟨fun h i hi => h i (List.mem_range.2 hi), fun h i hi => h i (List.mem_range.1 hi)⟩⟩
  rw [run_equalIn_array w 9998 _ _ ha hinfo, hc]
  exact hb

theorem relP0 (r : Rl) (w : World) : (part 3 (relV r).toArray 0).run Tryd.prog w = .ok (.int .i64 r.n) w :=
  part_run tab_ok (t := 3) (vs := (relV r).toArray) (j := 0) (p := _) (x := .int .i64 r.n) rfl (by simp) w

theorem relP1 (r : Rl) (w : World) : (part 30 (relV r).toArray 1).run Tryd.prog w = .ok (.agg (rowV r).toArray) w := by
  have := part_run tab_ok (P := Tryd.prog) (t := 30) (vs := (relV r).toArray) (j := 1) (p := _) (x := _) rfl (by simp) w
  simp only [relV_drop] at this
  exact this

theorem eqFields_cons {P : Program} {d : Nat} {xs ys : Array Value} {f : Field} {fs : List Field} {a b : Value} {r r' : Bool} {w : World} (hn : f.name ≠ "_") (ha : (part f.type xs f.offset).run P w = .ok a w) (hb : (part f.type ys f.offset).run P w = .ok b w)
    (hr : (Op.equalIn d f.type a b).run P w = .ok r w) (h : r = true → (Op.eqFields d xs ys fs).run P w = .ok r' w) : (Op.eqFields d xs ys (f :: fs)).run P w = .ok (r && r') w := by
  cases r
  · simp [Op.eqFields, hn, ha, hb, hr]
  · simp [Op.eqFields, hn, ha, hb, hr, h rfl]

theorem eqRel (r s : Rl) : EqT Tryd.prog 32 (relV r).toArray (relV s).toArray (decide (r = s)) := by
  refine ⟨by kernel_rfl, fun w => ?_⟩
  have hu := tab_undP tab_ok (t := 32) (d := .struct #[{ name := "N", type := 3, offset := 0, embedded := false, tag := "", pkgPath := "", byteOffset := 0 }, { name := "Rows", type := 30, offset := 1, embedded := false, tag := "", pkgPath := "", byteOffset := 8 }]) rfl
  have hf : Tryd.prog.fieldsOf 32 = #[{ name := "N", type := 3, offset := 0, embedded := false, tag := "", pkgPath := "", byteOffset := 0 }, { name := "Rows", type := 30, offset := 1, embedded := false, tag := "", pkgPath := "", byteOffset := 8 }] := by simp [Program.fieldsOf, hu]
  rw [run_equalIn_struct w 9999 _ _ _ (by rw [hf]; exact hu) (by kernel_rfl), hf]
  have hi := tab_undP tab_ok (t := 3) (d := .int .i64) rfl
  have he : (Op.equalIn 9999 3 (.int .i64 r.n) (.int .i64 s.n)).run Tryd.prog w = .ok (r.n == s.n) w := run_equalIn_int w 9998 _ _ _ _ _ hi
  obtain ⟨b, hr, hb⟩ := eqRows r s w
  have e : decide (r = s) = ((r.n == s.n) && (b && true)) := by
    rw [Bool.eq_iff_iff, decide_eq_true_eq, Rl.ext_iff', Bool.and_true, Bool.and_eq_true, beq_iff_eq, hb]
  rw [e]
  exact eqFields_cons (by decide) (relP0 r w) (relP0 s w) he fun _ => eqFields_cons (by decide) (relP1 r w) (relP1 s w) hr fun _ => by simp [Op.eqFields]

end Go.Proofs.YtehimiadpgbhmaaDoor

/-
  Events as values; lists of them in a world; short (E0 without SameEvents, for cuts that lack it). Own work.
-/
namespace Go.Proofs.YtehimiadpgbhmaaDoor
open Go.AM
set_option maxRecDepth 100000

/-- An event. -/
structure Ev where
  kind : Int
  thread : Int
  index : Int
  loc : Int
  locked : Bool
  deriving DecidableEq

def evV (e : Ev) : List Value := [.int .i64 e.kind, .int .i64 e.thread, .int .i64 e.index, .int .i64 e.loc, .bool e.locked]
def encEv (e : Ev) : Value := .agg (evV e).toArray

@[simp] theorem evV_len (e : Ev) : (evV e).length = 5 := rfl
@[simp] theorem intAt_k (e : Ev) : intAt (evV e) 0 = e.kind := rfl
@[simp] theorem intAt_t (e : Ev) : intAt (evV e) 1 = e.thread := rfl
@[simp] theorem intAt_i (e : Ev) : intAt (evV e) 2 = e.index := rfl
@[simp] theorem intAt_l (e : Ev) : intAt (evV e) 3 = e.loc := rfl
@[simp] theorem boolAt_l (e : Ev) : boolAt (evV e) 4 = e.locked := rfl
@[simp] theorem evV_0 (e : Ev) : (evV e)[0]? = some (.int .i64 e.kind) := rfl
@[simp] theorem evV_1 (e : Ev) : (evV e)[1]? = some (.int .i64 e.thread) := rfl
@[simp] theorem evV_2 (e : Ev) : (evV e)[2]? = some (.int .i64 e.index) := rfl
@[simp] theorem evV_3 (e : Ev) : (evV e)[3]? = some (.int .i64 e.loc) := rfl
@[simp] theorem evV_4 (e : Ev) : (evV e)[4]? = some (.bool e.locked) := rfl
theorem evV_one (e : Ev) : (∀ c ∈ evV e, c.oneCell' = true) ↔ True := iff_true_intro fun c hc => by
  simp only [evV, List.mem_cons, List.not_mem_nil, or_false] at hc
  rcases hc with rfl | rfl | rfl | rfl | rfl <;> rfl
@[simp] theorem zev : z52 = evV ⟨0, 0, 0, 0, false⟩ := rfl
@[simp] theorem splice_ev (e d : Ev) : splice (evV e) 0 (evV d) = evV d := rfl

/-- A slice of events, as it lies in a world. -/
def SeesV (w : World) (p : Option Addr) (xs : List Ev) : Prop :=
  ∀ i (h : i < xs.length), p = some (p.getD default) ∧ ∀ j x, (evV xs[i])[j]? = some x → w.cell? ((p.getD default).add (i * 5 + j)) = some x

theorem SeesV.agree {S : Nat → Prop} {w w' : World} {p : Option Addr} {xs : List Ev} (h : SeesV w p xs) (hA : Agree S w w') (hS : ∀ a, p = some a → ¬ S a.block) : SeesV w' p xs := by
  intro i hi
  obtain ⟨h1, h2⟩ := h i hi
  exact ⟨h1, fun j x hx => hA.cell (h2 j x hx) (by rw [add_block]; exact hS _ h1)⟩

theorem add_add (a : Addr) (i j : Nat) : (a.add i).add j = a.add (i + j) := by
  obtain ⟨b, o, x⟩ := a
  unfold Addr.add
  by_cases hi : i = 0
  · subst hi; simp
  · by_cases hj : j = 0
    · subst hj; simp [hi]
    · have : ¬ i + j = 0 := by omega
      simp [hi, hj, this, Nat.add_assoc]

theorem SeesV.ext {w : World} {p : Option Addr} {xs : List Ev} (h : SeesV w p xs) (i : Nat) (hi : i < xs.length) : extCells w ((p.getD default).add (i * 5)) 0 5 = evV xs[i] := by
  have h2 := (h i hi).2
  have c : ∀ j x, (evV xs[i])[j]? = some x → w.cell? (((p.getD default).add (i * 5)).add j) = some x := fun j x hx => by rw [add_add]; exact h2 j x hx
  simp only [extCells, c 0 _ (evV_0 _), c (0 + 1) _ (evV_1 _), c (0 + 1 + 1) _ (evV_2 _), c (0 + 1 + 1 + 1) _ (evV_3 _), c (0 + 1 + 1 + 1 + 1) _ (evV_4 _)]
  rfl
theorem SeesV.some {w : World} {p : Option Addr} {xs : List Ev} (h : SeesV w p xs) (i : Nat) (hi : i < xs.length) : ∀ j, j < 5 → (w.cell? (((p.getD default).add (i * 5)).add j)).isSome := by
  have h2 := (h i hi).2
  have c : ∀ j x, (evV xs[i])[j]? = Option.some x → w.cell? (((p.getD default).add (i * 5)).add j) = Option.some x := fun j x hx => by rw [add_add]; exact h2 j x hx
  intro j hj
  rcases (show j = 0 ∨ j = 1 ∨ j = 2 ∨ j = 3 ∨ j = 4 by omega) with rfl | rfl | rfl | rfl | rfl
  · rw [c 0 _ (evV_0 _)]; rfl
  · rw [c 1 _ (evV_1 _)]; rfl
  · rw [c 2 _ (evV_2 _)]; rfl
  · rw [c 3 _ (evV_3 _)]; rfl
  · rw [c 4 _ (evV_4 _)]; rfl
theorem SeesV.field {w : World} {p : Option Addr} {xs : List Ev} (h : SeesV w p xs) (i : Nat) (hi : i < xs.length) {j : Nat} {x : Value} (hx : (evV xs[i])[j]? = Option.some x) : w.cell? (((p.getD default).add (i * 5)).add j) = Option.some x := by
  rw [add_add]; exact (h i hi).2 j x hx

theorem evP0 (e : Ev) (w : World) : (part 3 (evV e).toArray 0).run Tryd.prog w = .ok (.int .i64 e.kind) w :=
  part_run tab_ok (t := 3) (vs := (evV e).toArray) (j := 0) (p := _) (x := .int .i64 e.kind) rfl (by simp) w
theorem evP1 (e : Ev) (w : World) : (part 3 (evV e).toArray 1).run Tryd.prog w = .ok (.int .i64 e.thread) w :=
  part_run tab_ok (t := 3) (vs := (evV e).toArray) (j := 1) (p := _) (x := .int .i64 e.thread) rfl (by simp) w
theorem evP2 (e : Ev) (w : World) : (part 3 (evV e).toArray 2).run Tryd.prog w = .ok (.int .i64 e.index) w :=
  part_run tab_ok (t := 3) (vs := (evV e).toArray) (j := 2) (p := _) (x := .int .i64 e.index) rfl (by simp) w
theorem evP3 (e : Ev) (w : World) : (part 3 (evV e).toArray 3).run Tryd.prog w = .ok (.int .i64 e.loc) w :=
  part_run tab_ok (t := 3) (vs := (evV e).toArray) (j := 3) (p := _) (x := .int .i64 e.loc) rfl (by simp) w
theorem evP4 (e : Ev) (w : World) : (part 4 (evV e).toArray 4).run Tryd.prog w = .ok (.bool e.locked) w :=
  part_run tab_ok (t := 4) (vs := (evV e).toArray) (j := 4) (p := _) (x := .bool e.locked) rfl (by simp) w
theorem eqEv (a b : Ev) : EqT Tryd.prog 52 (evV a).toArray (evV b).toArray (decide (a = b)) := by
  refine ⟨by kernel_rfl, fun w => ?_⟩
  have hi := tab_undP tab_ok (t := 3) (d := .int .i64) rfl
  have hb := tab_undP tab_ok (t := 4) (d := .bool) rfl
  have hu := tab_undP tab_ok (t := 52) (d := .struct #[{ name := "Kind", type := 3, offset := 0, embedded := false, tag := "", pkgPath := "", byteOffset := 0 }, { name := "Thread", type := 3, offset := 1, embedded := false, tag := "", pkgPath := "", byteOffset := 8 }, { name := "Index", type := 3, offset := 2, embedded := false, tag := "", pkgPath := "", byteOffset := 16 }, { name := "Loc", type := 3, offset := 3, embedded := false, tag := "", pkgPath := "", byteOffset := 24 }, { name := "Locked", type := 4, offset := 4, embedded := false, tag := "", pkgPath := "", byteOffset := 32 }]) rfl
  have hf : Tryd.prog.fieldsOf 52 = #[{ name := "Kind", type := 3, offset := 0, embedded := false, tag := "", pkgPath := "", byteOffset := 0 }, { name := "Thread", type := 3, offset := 1, embedded := false, tag := "", pkgPath := "", byteOffset := 8 }, { name := "Index", type := 3, offset := 2, embedded := false, tag := "", pkgPath := "", byteOffset := 16 }, { name := "Loc", type := 3, offset := 3, embedded := false, tag := "", pkgPath := "", byteOffset := 24 }, { name := "Locked", type := 4, offset := 4, embedded := false, tag := "", pkgPath := "", byteOffset := 32 }] := by simp [Program.fieldsOf, hu]
  rw [run_equalIn_struct w 9999 _ _ _ (by rw [hf]; exact hu) (by kernel_rfl), hf]
  have he : ∀ x y : Int, (Op.equalIn 9999 3 (.int .i64 x) (.int .i64 y)).run Tryd.prog w = .ok (x == y) w := fun x y => run_equalIn_int w 9998 _ _ _ _ _ hi
  have hg : ∀ x y : Bool, (Op.equalIn 9999 4 (.bool x) (.bool y)).run Tryd.prog w = .ok (x == y) w := fun x y => run_equalIn_bool w 9998 _ _ _ hb
  have e : decide (a = b) = ((a.kind == b.kind) && ((a.thread == b.thread) && ((a.index == b.index) && ((a.loc == b.loc) && ((a.locked == b.locked) && true))))) := by
    obtain ⟨a1, a2, a3, a4, a5⟩ := a
    obtain ⟨b1, b2, b3, b4, b5⟩ := b
    rw [Bool.eq_iff_iff, decide_eq_true_eq, Ev.mk.injEq]
    simp
  rw [e]
  exact eqFields_cons (by decide) (evP0 a w) (evP0 b w) (he _ _) fun _ => eqFields_cons (by decide) (evP1 a w) (evP1 b w) (he _ _) fun _ => eqFields_cons (by decide) (evP2 a w) (evP2 b w) (he _ _) fun _ =>
    eqFields_cons (by decide) (evP3 a w) (evP3 b w) (he _ _) fun _ => eqFields_cons (by decide) (evP4 a w) (evP4 b w) (hg _ _) fun _ => by simp [Op.eqFields]

def shortL (xs : List Ev) : List Ev := if xs.length > 64 then [] else xs
theorem shortL_le (xs : List Ev) : (shortL xs).length ≤ 64 := by
  unfold shortL
  split
  · simp
  · omega

/-- The short one, as a value. -/
def shortV (p : Option Addr) (c : Nat) (xs : List Ev) : Value := if xs.length > 64 then .slice none 0 0 else .slice p xs.length c

theorem short_ok (p : Option Addr) (c : Nat) (xs : List Ev) (w : World) : Gives Tryd.prog 23 [.slice p xs.length c] w (shortV p c xs) := by
  refine Gives.of_run Tryd.func23 rfl (by show 1 ≤ 7; decide) ?_
  by_cases h : xs.length > 64
  · refine RunF_sound tab_ok noX_local 100 [true] _ _ rfl ?_ ?_
    · simp; omega
    refine Run.retP tab_ok Tryd.func23 rfl trivial (fun M => ?_)
    rw [shortV, if_pos h]; rfl
  · refine RunF_sound tab_ok noX_local 100 [false] _ _ rfl ?_ ?_
    · simp; omega
    refine Run.retP tab_ok Tryd.func23 rfl trivial (fun M => ?_)
    rw [shortV, if_neg h]; rfl
theorem short_enters : Enters Tryd.prog 23 := enters_mk Tryd.func23 (by decide) rfl

theorem shortR_ok (p : Option Addr) (c : Nat) (xs : List Ev) (w : World) : Gives Tryd.prog 24 [.slice p xs.length c] w (shortV p c xs) := by
  refine Gives.of_run Tryd.func24 rfl (by show 1 ≤ 7; decide) ?_
  by_cases h : xs.length > 64
  · refine RunF_sound tab_ok noX_local 100 [true] _ _ rfl ?_ ?_
    · simp; omega
    refine Run.retP tab_ok Tryd.func24 rfl trivial (fun M => ?_)
    rw [shortV, if_pos h]; rfl
  · refine RunF_sound tab_ok noX_local 100 [false] _ _ rfl ?_ ?_
    · simp; omega
    refine Run.retP tab_ok Tryd.func24 rfl trivial (fun M => ?_)
    rw [shortV, if_neg h]; rfl
theorem shortR_enters : Enters Tryd.prog 24 := enters_mk Tryd.func24 (by decide) rfl

/-- What is short is a slice of what is short. -/
theorem short_form {w : World} {p : Option Addr} {xs : List Ev} (c : Nat) (h : SeesV w p xs) : ∃ p' c', shortV p c xs = .slice p' (shortL xs).length c' ∧ SeesV w p' (shortL xs) := by
  unfold shortV shortL
  split
  · exact ⟨none, 0, rfl, fun i hi => absurd hi (Nat.not_lt_zero _)⟩
  · exact ⟨p, c, rfl, h⟩

end Go.Proofs.YtehimiadpgbhmaaDoor

/-
  Relations row by row: On, Edges, two, Minus, Inverse, Compose: taken over from the texts of layer 2 by a program of our own (tools/closure.py). Own work.
-/
namespace Go.AM
/-- All pairs from one set to another. -/
def crossL (n : Int) (from_ to : BitVec 64) : Rl :=
  if n < 0 ∨ n > 64 then Rl.void 0 else Rl.by_ n fun i => if (i : Int) < n ∧ from_.getLsbD i then to &&& mask n else 0#64

/-- Its beginning. -/
def crossP (n : Int) (from_ to : BitVec 64) (k : Nat) : Rl := Rl.by_ n fun i => if i < k ∧ from_.getLsbD i then to &&& mask n else 0#64

theorem crossP_end {n : Int} {from_ to : BitVec 64} {k : Nat} (h0 : ¬ n < 0) (h1 : ¬ n > 64) (h : (k : Int) = n) : crossP n from_ to k = crossL n from_ to := by
  rw [crossL, if_neg (by omega), crossP]
  exact Rl.by_congr fun i _ => by
    have : (i < k ∧ from_.getLsbD i = true) ↔ ((i : Int) < n ∧ from_.getLsbD i = true) := by
      constructor <;> rintro ⟨h2, h3⟩ <;> exact ⟨by omega, h3⟩
    simp only [this]

theorem crossP_yes {n : Int} {from_ to : BitVec 64} {k : Nat} (h : from_.getLsbD k = true) : (crossP n from_ to k).setRow k (to &&& mask n) = crossP n from_ to (k + 1) := by
  rw [crossP, Rl.set_by, crossP]
  exact Rl.by_congr fun i _ => by
    by_cases e : k = i
    · subst e; simp [h]
    · have : (i < k + 1) ↔ i < k := by omega
      simp only [this, e, if_false]

theorem crossP_no {n : Int} {from_ to : BitVec 64} {k : Nat} (h : ¬ from_.getLsbD k = true) : crossP n from_ to k = crossP n from_ to (k + 1) := by
  rw [crossP, crossP]
  exact Rl.by_congr fun i _ => by
    by_cases e : k = i
    · subst e; simp [h]
    · have : (i < k + 1) ↔ i < k := by omega
      simp only [this]

theorem crossP_0 (n : Int) (from_ to : BitVec 64) : crossP n from_ to 0 = Rl.void n := by
  rw [crossP, Rl.void_by]
  exact Rl.by_congr fun i _ => by simp

end Go.AM

namespace Go.Proofs.YtehimiadpgbhmaaDoor
open Go.AM
set_option maxRecDepth 100000

theorem cross_ok (n : Int) (x y : BitVec 64) (w : World) : Gives Tryd.prog 47 [.int .i64 n, .int .u64 (un x), .int .u64 (un y)] w (encRel (crossL n x y)) := by
  refine Gives.of_run Tryd.func47 rfl (by show 3 ≤ 36; decide) ?_
  by_cases h1 : n < 0
  · refine RunF_sound tab_ok noX_local 100 [true, true] _ _ rfl ?_ ?_
    · simp [h1, fillL, Value.cells, segsVals, relV_one']
    · refine Run.retP tab_ok Tryd.func47 rfl ?_ (fun M => ?_)
      · simp [fillL, Value.cells]
      rw [crossL, if_pos (.inl h1)]; rfl
  by_cases h2 : n > 64
  · refine RunF_sound tab_ok noX_local 100 [false, true] _ _ rfl ?_ ?_
    · simp [fillL, Value.cells, segsVals, relV_one']; omega
    · refine Run.retP tab_ok Tryd.func47 rfl ?_ (fun M => ?_)
      · simp [fillL, Value.cells]
      rw [crossL, if_pos (.inr h2)]; rfl
  refine RunF_sound tab_ok noX_local 100 [false, false] _ _ rfl ?_ ?_
  · simp [fillL, Value.cells, segsVals, relV_one']; omega
  suffices H : ∀ (d k : Nat), (k : Int) + d = n → ∀ σ, inT σ.t [(0, .v (.int .i64 n)), (1, .v (.int .u64 (un x))), (2, .v (.int .u64 (un y))), (6, .ptr 0 0), (7, .ptr 1 0), (18, .v (.int .i64 n)), (19, .v (.int .i64 (k : Int)))] →
      inT σ.h [(0, .cells 32 [.vals 65 (relV (Rl.void 0))]), (1, .cells 32 [.vals 65 (relV (crossP n x y k))])] → Run _ _ σ by
    refine H n.toNat 0 (by omega) _ ⟨rfl, rfl, rfl, rfl, rfl, rfl, rfl, trivial⟩ ⟨rfl, ?_, trivial⟩
    rw [crossP_0]
    rfl
  intro d
  induction d with
  | zero =>
    intro k hk σ ht hh
    refine Run.to ?_ ht hh (n' := 2)
    refine RunF_sound tab_ok noX_local 100 [false] _ _ rfl ?_ ?_
    · simp [relV_one', segsVals]; omega
    · refine Run.retP tab_ok Tryd.func47 rfl ?_ (fun M => ?_)
      · simp
      rw [← crossP_end h1 h2 (k := k) (by omega)]; rfl
  | succ d ih =>
    intro k hk σ ht hh
    refine Run.to ?_ ht hh (n' := 2)
    have hk' : k < 64 := by omega
    by_cases c : x.getLsbD k = true
    · have c' := (bit_iff x k).2 c
      refine RunF_sound tab_ok noX_local 100 [true, true] _ _ rfl ?_ ?_
      · simp [band1_un, c']; omega
      refine Run.callFn noX_local rfl rfl rfl rfl rfl rfl rfl whole_enters rfl (fun w' _ => whole_ok n w' (by omega)) ?_
      refine RunF_sound tab_ok noX_local 100 [] _ _ rfl ?_ ?_
      · simp [okCell, Value.oneCell']; omega
      refine ih (k + 1) (by omega) _ ⟨rfl, rfl, rfl, rfl, rfl, rfl, i64_eq (wrap_succ (by omega)), trivial⟩ ⟨rfl, congrArg (fun l => some (Blk.cells 32 [.vals 65 l])) ?_, trivial⟩
      rw [band_un]
      simp [relV_set _ _ hk', crossP_yes c]
    · have c' : ¬ (x >>> k &&& 1#64) = 1#64 := fun h => c ((bit_iff x k).1 h)
      refine RunF_sound tab_ok noX_local 100 [true, false] _ _ rfl ?_ ?_
      · simp [band1_un, c']; omega
      exact ih (k + 1) (by omega) _ ⟨rfl, rfl, rfl, rfl, rfl, rfl, i64_eq (wrap_succ (by omega)), trivial⟩ ⟨rfl, by rw [← crossP_no c]; rfl, trivial⟩

theorem cross_enters : Enters Tryd.prog 47 := enters_mk Tryd.func47 (by decide) rfl

/-- Each number of a set to itself. -/
def onP (n : Int) (s : BitVec 64) (k : Nat) : Rl := Rl.by_ n fun i => if (i : Int) < n ∧ s.getLsbD i then (if i < k then 1#64 <<< i else s &&& mask n) else 0#64

def onL (n : Int) (s : BitVec 64) : Rl := if n < 0 ∨ n > 64 then Rl.void 0 else Rl.by_ n fun i => if (i : Int) < n ∧ s.getLsbD i then 1#64 <<< i else 0#64

theorem onP_0 {n : Int} {s : BitVec 64} (h0 : ¬ n < 0) (h1 : ¬ n > 64) : crossL n s s = onP n s 0 := by
  rw [crossL, if_neg (by omega), onP]
  exact Rl.by_congr fun i _ => by simp

theorem onP_end {n : Int} {s : BitVec 64} {k : Nat} (h0 : ¬ n < 0) (h1 : ¬ n > 64) (h : (k : Int) = n) : onP n s k = onL n s := by
  rw [onL, if_neg (by omega), onP]
  refine Rl.by_congr fun i _ => ?_
  by_cases c : (i : Int) < n ∧ s.getLsbD i = true
  · rw [if_pos c, if_pos c, if_pos (by omega)]
  · rw [if_neg c, if_neg c]

theorem and_bit (x : BitVec 64) (i : Nat) (h : i < 64) (hx : x.getLsbD i = true) : x &&& 1#64 <<< i = 1#64 <<< i := by
  apply BitVec.eq_of_getLsbD_eq
  intro j hj
  simp only [BitVec.getLsbD_and, BitVec.getLsbD_shiftLeft, BitVec.getLsbD_one]
  by_cases e : j = i
  · subst e; simp [hx]
  · by_cases hlt : j < i
    · simp [hlt]
    · have : ¬ (j - i = 0) := by omega
      simp [this]

theorem onP_row {n : Int} {s : BitVec 64} {k : Nat} (hk : k < 64) : (onP n s k).row k = if (k : Int) < n ∧ s.getLsbD k then s &&& mask n else 0#64 := by
  rw [onP, Rl.row_by, if_pos hk]
  simp

theorem onP_step {n : Int} {s : BitVec 64} {k : Nat} (hk : k < 64) (h0 : (k : Int) < n) : (onP n s k).setRow k ((onP n s k).row k &&& 1#64 <<< k) = onP n s (k + 1) := by
  rw [onP_row hk, onP, Rl.set_by, onP]
  refine Rl.by_congr fun i hi => ?_
  by_cases e : k = i
  · subst e
    by_cases c : s.getLsbD k = true
    · rw [if_pos rfl, if_pos ⟨h0, c⟩, if_pos ⟨h0, c⟩, if_pos (Nat.lt_succ_self _)]
      refine and_bit _ _ hk ?_
      rw [BitVec.getLsbD_and, c, mask_get n k (by omega)]
      simp; omega
    · simp [c]
  · have : (i < k + 1) ↔ i < k := by omega
    simp only [this, e, if_false]

theorem crossL_bad {n : Int} {x y : BitVec 64} (h : n < 0 ∨ n > 64) : crossL n x y = Rl.void 0 := by rw [crossL, if_pos h]

theorem on_ok (n : Int) (x : BitVec 64) (w : World) : Gives Tryd.prog 28 [.int .i64 n, .int .u64 (un x)] w (encRel (onL n x)) := by
  refine Gives.of_run Tryd.func28 rfl (by show 2 ≤ 27; decide) ?_
  refine RunF_sound tab_ok noX_local 100 [] _ _ rfl ?_ ?_
  · simp
  refine Run.callFn noX_local rfl rfl rfl rfl rfl rfl rfl cross_enters rfl (fun w' _ => cross_ok n x x w') ?_
  by_cases hb : n < 0 ∨ n > 64
  · rw [crossL_bad hb]
    refine RunF_sound tab_ok noX_local 100 [] _ _ rfl ?_ ?_
    · simp [segsVals, relV_one']
    refine RunF_sound tab_ok noX_local 100 [false] _ _ rfl ?_ ?_
    · simp [segsVals, relV_one', Rl.void]
    · refine Run.retP tab_ok Tryd.func28 rfl ?_ (fun M => ?_)
      · simp
      rw [onL, if_pos hb]; rfl
  have h1 : ¬ n < 0 := by omega
  have h2 : ¬ n > 64 := by omega
  rw [onP_0 h1 h2]
  refine RunF_sound tab_ok noX_local 100 [] _ _ rfl ?_ ?_
  · simp [segsVals, relV_one']
  suffices H : ∀ (d k : Nat), (k : Int) + d = n → ∀ σ, inT σ.t [(4, .ptr 0 0), (5, .ptr 1 0), (12, .v (.int .i64 n)), (13, .v (.int .i64 (k : Int)))] →
      inT σ.h [(0, .cells 32 [.vals 65 (relV (Rl.void 0))]), (1, .cells 32 [.vals 65 (relV (onP n x k))])] → Run _ _ σ by
    exact H n.toNat 0 (by omega) _ ⟨rfl, rfl, rfl, rfl, trivial⟩ ⟨rfl, rfl, trivial⟩
  intro d
  induction d with
  | zero =>
    intro k hk σ ht hh
    refine Run.to ?_ ht hh (n' := 2)
    refine RunF_sound tab_ok noX_local 100 [false] _ _ rfl ?_ ?_
    · simp [relV_one', segsVals]; omega
    · refine Run.retP tab_ok Tryd.func28 rfl ?_ (fun M => ?_)
      · simp
      rw [← onP_end h1 h2 (k := k) (by omega)]; rfl
  | succ d ih =>
    intro k hk σ ht hh
    refine Run.to ?_ ht hh (n' := 2)
    have hk' : k < 64 := by omega
    refine RunF_sound tab_ok noX_local 100 [true] _ _ rfl ?_ ?_
    · simp; omega
    refine Run.drawA noX_local rfl [3] [] rfl rfl trivial ?_
    refine RunOF_sound tab_ok noX_local rfl rfl 100 [] _ _ rfl ?_ ?_
    · simp [relV_get _ _ hk', intAt_row _ _ hk', okCell, Value.oneCell', inT]; omega
    refine RunO.done ?_
    refine RunF_sound tab_ok noX_local 100 [] _ _ rfl ?_ ?_
    · simp
    refine ih (k + 1) (by omega) _ ⟨rfl, rfl, rfl, i64_eq (wrap_succ (by omega)), trivial⟩ ⟨rfl, congrArg (fun l => some (Blk.cells 32 [.vals 65 l])) ?_, trivial⟩
    simp [intAt_row _ _ hk', shl1_un, relV_set _ _ hk', onP_step hk' (show (k : Int) < n by omega)]

theorem on_enters : Enters Tryd.prog 28 := enters_mk Tryd.func28 (by decide) rfl

/-- A slice of pairs, as it lies in a world. -/
def SeesE (w : World) (p : Option Addr) (xs : List (Int × Int)) : Prop :=
  ∀ i (h : i < xs.length), p = some (p.getD default) ∧ extCells w ((p.getD default).add (i * 2)) 0 2 = [.int .i64 xs[i].1, .int .i64 xs[i].2] ∧ ∀ j, j < 2 → (w.cell? (((p.getD default).add (i * 2)).add j)).isSome

theorem SeesE.agree {S : Nat → Prop} {w w' : World} {p : Option Addr} {xs : List (Int × Int)} (h : SeesE w p xs) (hA : Agree S w w') (hS : ∀ a, p = some a → ¬ S a.block) : SeesE w' p xs := by
  intro i hi
  obtain ⟨h1, h2, h3⟩ := h i hi
  have hb : ∀ j, w'.cell? (((p.getD default).add (i * 2)).add j) = w.cell? (((p.getD default).add (i * 2)).add j) ∨ w.cell? (((p.getD default).add (i * 2)).add j) = none := by
    intro j
    cases hc : w.cell? (((p.getD default).add (i * 2)).add j) with
    | none => exact .inr rfl
    | some x => exact .inl (hA.cell hc (by rw [add_block, add_block]; exact hS _ h1))
  have hs : ∀ j, j < 2 → w'.cell? (((p.getD default).add (i * 2)).add j) = w.cell? (((p.getD default).add (i * 2)).add j) := by
    intro j hj
    rcases hb j with h | h
    · exact h
    · have := h3 j hj; rw [h] at this; cases this
  refine ⟨h1, ?_, fun j hj => by rw [hs j hj]; exact h3 j hj⟩
  rw [← h2]
  simp only [extCells, hs 0 (by omega), hs (0 + 1) (by omega)]

@[simp] theorem intAt_p0 (a b : Int) : intAt [.int .i64 a, .int .i64 b] 0 = a := rfl

@[simp] theorem intAt_p1 (a b : Int) : intAt [.int .i64 a, .int .i64 b] 1 = b := rfl

@[simp] theorem one_int (k : IntKind) (n : Int) : (Value.int k n).oneCell' = true := rfl

@[simp] theorem zedge : z83 = [.int .i64 0, .int .i64 0] := rfl

/-- The table of math/bits as its initialiser lays it. -/
def TabAt (w : World) : Prop := ∀ j, j < 64 → w.cell? ⟨0, j, none⟩ = some (.int .u8 ((Go.Lib.deBruijn64tab.getD j 0 : Nat) : Int))

theorem TabAt.agree {S : Nat → Prop} {w w' : World} (h : TabAt w) (hA : Agree S w w') (hS : ¬ S 0) : TabAt w' := fun j hj => hA.cell (h j hj) hS

def tzI (x : BitVec 64) : Int := if x = 0#64 then 64 else (tz x : Int)

theorem neg_un (x : BitVec 64) : IntKind.u64.wrap (0 - un x) = un (-x) := by
  have := sub_un 0#64 x
  rw [show un 0#64 - un x = 0 - un x by simp [un]] at this
  rw [this]; simp

theorem low_bit (x : BitVec 64) (h : x ≠ 0#64) : x &&& -x = 1#64 <<< tz x := by
  have h0 : x.toNat ≠ 0 := fun e => h (BitVec.eq_of_toNat_eq (by simpa using e))
  obtain ⟨h1, h2⟩ := Go.Lib.lowest_bit 64 x.toNat h0 x.isLt
  have hk := tz_lt x h
  apply BitVec.eq_of_toNat_eq
  rw [BitVec.toNat_and, BitVec.toNat_neg, BitVec.toNat_shiftLeft]
  have h3 : (1#64).toNat = 1 := rfl
  rw [h3, Nat.shiftLeft_eq, Nat.one_mul, Nat.mod_eq_of_lt (show 2 ^ 64 - x.toNat < 2 ^ 64 by omega), h1]
  show 2 ^ tz x = _
  rw [Nat.mod_eq_of_lt (Nat.pow_lt_pow_right (by decide) hk)]

theorem tz_key (x : BitVec 64) (h : x ≠ 0#64) : ∃ idx : Nat, idx < 64 ∧ Go.Lib.deBruijn64tab.getD idx 0 = tz x ∧
    shrI .u64 (IntKind.u64.wrap (band .u64 (un x) (IntKind.u64.wrap (0 - un x)) * 285870213051353865)) 58 = (idx : Int) := by
  have hk := tz_lt x h
  obtain ⟨hi, htab⟩ := Go.Lib.deBruijn64_at (tz x) hk
  refine ⟨_, hi, htab, ?_⟩
  rw [neg_un, band_un, low_bit x h, show (285870213051353865 : Int) = un 285870213051353865#64 from rfl, mul_un, shr_un]
  unfold un
  rw [BitVec.toNat_ushiftRight, Nat.shiftRight_eq_div_pow, BitVec.toNat_mul, BitVec.toNat_shiftLeft, Nat.shiftLeft_eq]
  simp only [BitVec.toNat_ofNat, Nat.reducePow, Nat.reduceMod, Nat.one_mul, show Int.toNat 58 = 58 from rfl]
  have e : 2 ^ tz x % 18446744073709551616 = 2 ^ tz x := Nat.mod_eq_of_lt (by have := Nat.pow_lt_pow_right (a := 2) (by decide) hk; simpa using this)
  rw [e]

theorem tz_ok0 (w : World) : Gives Tryd.prog 54 [.int .u64 (un 0#64)] w (.int .i64 64) := by
  refine Gives.of_run Tryd.func54 rfl (by show 1 ≤ 14; decide) ?_
  refine RunF_sound tab_ok noX_local 100 [true] _ _ rfl ?_ ?_
  · simp [un]
  · exact Run.retP tab_ok Tryd.func54 rfl trivial (fun M => rfl)

theorem addr_idx (idx : Nat) : (⟨0, 0, none⟩ : Addr).add ((idx : Int).toNat * 1) = ⟨0, idx, none⟩ := by rw [add_lit']; simp

theorem tz_okp (y : Int) (idx : Nat) (k : Nat) (hy : y ≠ 0) (hi : idx < 64) (hk : k < 64) (w : World) (hc : w.cell? ⟨0, idx, none⟩ = some (.int .u8 (k : Int)))
    (key : shrI .u64 (IntKind.u64.wrap (band .u64 y (IntKind.u64.wrap (0 - y)) * 285870213051353865)) 58 = (idx : Int)) :
    Gives Tryd.prog 54 [.int .u64 y] w (.int .i64 (k : Int)) := by
  refine Gives.of_run Tryd.func54 rfl (by show 1 ≤ 14; decide) ?_
  refine RunF_sound tab_ok noX_local 100 [false] _ _ rfl ?_ ?_
  · rw [key, addr_idx, fnC_w0, hc]
    simp [hy]
    omega
  · rw [key, addr_idx, fnC_w0, hc]
    refine Run.retP tab_ok Tryd.func54 rfl trivial (fun M => ?_)
    simp only []
    rw [wrap_i64 (by omega) (by omega)]
    rfl

theorem tz_ok (x : BitVec 64) (w : World) (hT : TabAt w) : Gives Tryd.prog 54 [.int .u64 (un x)] w (.int .i64 (tzI x)) := by
  by_cases h : x = 0#64
  · subst h
    exact tz_ok0 w
  · obtain ⟨idx, hi, htab, key⟩ := tz_key x h
    have hc := hT idx hi
    rw [htab] at hc
    have := tz_okp (un x) idx (tz x) (by simpa using h) hi (tz_lt x h) w hc key
    rw [tzI, if_neg h]; exact this

theorem tz_enters : Enters Tryd.prog 54 := enters_mk Tryd.func54 (by decide) rfl

/-- The pairs from a number on. -/
def restL (r : Rl) : Nat → Nat → List (Int × Int)
  | _, 0 => []
  | i, d + 1 => (bitsL (r.row i)).map (fun b : Nat => ((i : Int), (b : Int))) ++ restL r (i + 1) d

/-- The pairs of a right relation, in order. -/
def edgesL (r : Rl) : List (Int × Int) := restL r 0 r.n.toNat

/-- A relation that lies whole in a block. -/
def RelAt (w : World) (b : Nat) (r : Rl) : Prop := ∀ q x, (relV r)[q]? = some x → w.cell? ⟨b, q, none⟩ = some x

def encEd (e : Int × Int) : List Value := [.agg #[.int .i64 e.1, .int .i64 e.2]]

/-- What an iterator over pairs hands over. -/
def encEs (l : List (Int × Int)) : List (List Value) := l.map encEd

/-- The iterator's blocks: the table's, the relation's. -/
def edgesK (b : Nat) : Nat → Prop := fun k => k = 0 ∨ k = b

theorem RelAt.agree {S : Nat → Prop} {w w' : World} {b : Nat} {r : Rl} (h : RelAt w b r) (hA : Agree S w w') (hS : ¬ S b) : RelAt w' b r := fun q x hq => hA.cell (h q x hq) hS

theorem bits_restL (r : Rl) (i d : Nat) (y : BitVec 64) (hy : y ≠ 0#64) (tail : List (Int × Int)) :
    (bitsL y).map (fun b : Nat => ((i : Int), (b : Int))) ++ tail = ((i : Int), (tz y : Int)) :: ((bitsL (dropLow y)).map (fun b : Nat => ((i : Int), (b : Int))) ++ tail) := by
  rw [bitsL_cons y hy]; rfl

theorem edges_iter (r : Rl) (hn : 0 ≤ r.n ∧ r.n ≤ 64) (b : Nat) (w0 : World) (hb : RelAt w0 b r) (hT : TabAt w0) :
    Iter Tryd.prog 53 [.pointer (some ⟨b, 0, none⟩)] (edgesK b) w0 (encEs (edgesL r)) := by
  refine Iter.of_run Tryd.func53 rfl (by show 2 ≤ 28; decide) ?_
  intro y J Js w fp hJ hJs hy hag hfp R hR
  have hbw : RelAt w b r := hb.agree hag (fun h => h (.inr rfl))
  have hTw : TabAt w := hT.agree hag (fun h => h (.inl rfl))
  have hf0 : ¬ fp 0 := fun h => hfp 0 h (.inl rfl)
  have hfb : ¬ fp b := fun h => hfp b h (.inr rfl)
  have c0 : w.cell? ⟨b, 0, none⟩ = some (.int .i64 r.n) := hbw 0 _ rfl
  have hres : (Tryd.f53).results = #[] := rfl
  refine RunF_sound tab_ok (hJ []) 100 [] _ _ rfl ?_ ?_
  · simp only [fnC_w0, fnC_S0, add_lit', Nat.zero_add, c0]
    simp [hfb]
  simp only [fnC_w0, add_lit', Nat.zero_add, c0]
  -- the outer loop
  suffices H : ∀ (d i : Nat) (pre : List (List Value)), (i : Int) + d = r.n → pre ++ encEs (restL r i d) = encEs (edgesL r) →
      ∀ σ, inT σ.t [(0, .v y), (1, .v (.pointer (some ⟨b, 0, none⟩))), (6, .v (.int .i64 r.n)), (7, .v (.int .i64 (i : Int)))] → inT σ.h [] →
        Run (fnC Tryd.prog 53 (Tryd.f53).ntmps w fp (J pre) R) _ σ by
    exact H r.n.toNat 0 [] (by omega) rfl _ ⟨rfl, rfl, rfl, rfl, trivial⟩ trivial
  intro d
  induction d with
  | zero =>
    intro i pre hi hp σ ht hh
    refine Run.to ?_ ht hh (n' := 0)
    refine RunF_sound tab_ok (hJ pre) 100 [false] _ _ rfl ?_ ?_
    · simp; omega
    · refine Run.finI Tryd.func53 hres fun v w' fp' hg hX => hR v w' fp' pre hg (.inl ⟨?_, hX⟩)
      simpa [restL, encEs] using hp
  | succ d ih =>
    intro i pre hi hp σ ht hh
    refine Run.to ?_ ht hh (n' := 0)
    have hi' : i < 64 := by omega
    have c1 : w.cell? ⟨b, 1 + i, none⟩ = some (.int .u64 (un (r.row i))) := hbw _ _ (relV_get r i hi')
    refine RunF_sound tab_ok (hJ pre) 100 [true] _ _ rfl ?_ ?_
    · simp only [fnC_w0, fnC_S0, add_lit', Nat.zero_add, Int.toNat_natCast, Nat.mul_one, c1]
      simp [hfb]; omega
    simp only [fnC_w0, add_lit', Nat.zero_add, Int.toNat_natCast, Nat.mul_one, c1]
    -- the inner loop
    suffices H2 : ∀ (m : Nat) (x : BitVec 64) (pre : List (List Value)), (bitsL x).length = m → pre ++ encEs ((bitsL x).map (fun b : Nat => ((i : Int), (b : Int))) ++ restL r (i + 1) d) = encEs (edgesL r) →
        ∀ σ, inT σ.t [(0, .v y), (1, .v (.pointer (some ⟨b, 0, none⟩))), (6, .v (.int .i64 r.n)), (7, .v (.int .i64 (i : Int))), (3, .v (.int .i64 (i : Int))), (4, .v (.int .u64 (un x)))] → inT σ.h [] →
          Run (fnC Tryd.prog 53 (Tryd.f53).ntmps w fp (J pre) R) _ σ by
      exact H2 _ (r.row i) pre rfl hp _ ⟨rfl, rfl, rfl, rfl, rfl, rfl, trivial⟩ trivial
    intro m
    induction m with
    | zero =>
      intro x pre hm hp σ ht hh
      refine Run.to ?_ ht hh (n' := 0)
      have hx : x = 0#64 := by
        by_cases h : x = 0#64
        · exact h
        · rw [bitsL_cons x h] at hm; cases hm
      refine RunF_sound tab_ok (hJ pre) 100 [false] _ _ rfl ?_ ?_
      · simp [hx]
      refine ih (i + 1) pre (by omega) ?_ _ ⟨rfl, rfl, rfl, i64_eq (wrap_succ (by omega)), trivial⟩ trivial
      have : bitsL x = [] := List.length_eq_zero_iff.1 hm
      rw [this] at hp; exact hp
    | succ m ihm =>
      intro x pre hm hp σ ht hh
      refine Run.to ?_ ht hh (n' := 0)
      have hx : x ≠ 0#64 := fun h => by rw [h, bitsL_zero] at hm; cases hm
      refine RunF_sound tab_ok (hJ pre) 100 [true] _ _ rfl ?_ ?_
      · simp [hx]
      refine Run.callFn (hJ pre) rfl rfl rfl rfl rfl rfl rfl tz_enters rfl (fun w' hw' => tz_ok x w' (hTw.agree hw' hf0)) ?_
      have htz : tzI x = (tz x : Int) := by rw [tzI, if_neg hx]
      rw [bits_restL r i d x hx] at hp
      have hp' : (pre ++ [encEd ((i : Int), (tz x : Int))]) ++ encEs ((bitsL (dropLow x)).map (fun b : Nat => ((i : Int), (b : Int))) ++ restL r (i + 1) d) = encEs (edgesL r) := by
        rw [← hp]; simp [encEs]
      have hpx : pre ++ [encEd ((i : Int), (tz x : Int))] <+: encEs (edgesL r) := ⟨_, hp'⟩
      refine RunF_sound tab_ok (hJ pre) 100 [] _ _ rfl ?_ ?_
      · simp [fillL, Value.cells, splice]
      refine Run.yield (J := J) (Js := Js) rfl (hy pre _ hpx) rfl rfl rfl rfl rfl ?_ rfl rfl ?_ ?_
      · rw [htz]; rfl
      · refine RunF_sound tab_ok (hJ _) 100 [false] _ _ rfl ?_ ?_
        · simp
        refine ihm (dropLow x) _ ?_ hp' _ ⟨rfl, rfl, rfl, rfl, rfl, ?_, trivial⟩ trivial
        · rw [bitsL_cons x hx] at hm; simpa using hm
        · refine u64_eq ?_
          rw [sub1_un, band_un]; rfl
      · refine RunF_sound tab_ok (hJs _) 100 [true] _ _ rfl ?_ ?_
        · simp
        exact Run.retI Tryd.func53 hres fun v w' fp' hg hX => hR v w' fp' _ hg (.inr ⟨hpx, hX⟩)

theorem edgesIt_enters : Enters Tryd.prog 53 := enters_mk Tryd.func53 (by decide) rfl

/-- The iterator over a relation's pairs, as a value. -/
def edgesF (b : Nat) : Value := .func (.func 53) #[] #[.pointer (some ⟨b, 0, none⟩)]

theorem edges_ok (r : Rl) (w : World) : Makes Tryd.prog 45 [encRel r] w (fun v w' => ∃ b, v = edgesF b ∧ w.heap.size ≤ b ∧ RelAt w' b (rightL r)) := by
  refine Makes.of_run Tryd.func45 rfl (by show 1 ≤ 6; decide) ?_
  refine RunF_sound tab_ok noX_local 100 [] _ _ rfl ?_ ?_
  · simp
  refine Run.callFn noX_local rfl rfl rfl rfl rfl rfl rfl right_enters rfl (fun w' _ => right_ok r w') ?_
  refine RunF_sound tab_ok noX_local 100 [] _ _ rfl ?_ ?_
  · simp [segsVals, relV_one']
  refine Run.ret tab_ok Tryd.func45 rfl trivial fun M fp a w' hr => ⟨hr.agree, (M 0).1, rfl, ?_, ?_⟩
  · rcases Nat.lt_or_ge (M 0).1 w.heap.size with h | h
    · exact (hr.own 0 _ rfl h).elim
    · exact h
  · intro q x hq
    have hb : BlkAt M w' 0 (.cells 32 [.vals 65 (relV (rightL r))]) := hr.heap 0 _ rfl
    have := vals_cells hb (off := 0) (s0 := 0) rfl q x hq
    rwa [Nat.zero_add] at this

theorem edges_enters : Enters Tryd.prog 45 := enters_mk Tryd.func45 (by decide) rfl

/-! ### The reference's -/

theorem encEs_next {E : List (Int × Int)} {k : Nat} (hk : k ≤ E.length) {x : List Value} (h : encEs (E.take k) ++ [x] <+: encEs E) : ∃ hlt : k < E.length, x = encEd E[k] := by
  have hl := h.length_le
  simp only [encEs, List.length_append, List.length_map, List.length_take, List.length_singleton] at hl
  have hlt : k < E.length := by omega
  refine ⟨hlt, ?_⟩
  obtain ⟨t, ht⟩ := h
  have := congrArg (fun l => l[k]?) ht
  simp only [encEs] at this
  rw [List.append_assoc, List.getElem?_append_right (by simp; omega)] at this
  simp [Nat.min_eq_left hk, hlt] at this
  exact this

theorem encEs_succ {E : List (Int × Int)} {k : Nat} (hlt : k < E.length) : encEs (E.take k) ++ [encEd E[k]] = encEs (E.take (k + 1)) := by
  rw [List.take_succ_eq_append_getElem hlt, encEs, encEs, List.map_append]; rfl

theorem encEs_all {E : List (Int × Int)} {k : Nat} (hk : k ≤ E.length) (h : encEs E = encEs (E.take k)) : k = E.length := by
  have := congrArg List.length h
  simp only [encEs, List.length_map, List.length_take] at this
  omega

open Classical in
/-- Two relations over the same numbers, or two void ones. -/
noncomputable def twoL (r s : Rl) : Rl × Rl := if (rightL r).n = (rightL s).n then (rightL r, rightL s) else (Rl.void 0, Rl.void 0)

theorem rightL_void : rightL (Rl.void 0) = Rl.void 0 := by
  refine rightL_of _ ?_
  unfold checkI
  rw [if_neg (by simp [Rl.void]), if_pos good_void]

theorem twoL_n (r s : Rl) : (twoL r s).1.n = (twoL r s).2.n := by
  unfold twoL; split
  · assumption
  · rfl

theorem twoL_right (r s : Rl) : rightL (twoL r s).1 = (twoL r s).1 ∧ rightL (twoL r s).2 = (twoL r s).2 := by
  unfold twoL; split
  · exact ⟨rightL_idem _, rightL_idem _⟩
  · exact ⟨rightL_void, rightL_void⟩

theorem two_ok (r s : Rl) (w : World) : Gives Tryd.prog 44 [encRel r, encRel s] w (.tuple #[encRel (twoL r s).1, encRel (twoL r s).2]) := by
  refine Gives.of_run Tryd.func44 rfl (by show 2 ≤ 19; decide) ?_
  refine RunF_sound tab_ok noX_local 100 [] _ _ rfl ?_ ?_
  · simp
  refine Run.drawA noX_local rfl [0] [(1, .cells 32 [.vals 65 (relV s)])] rfl rfl ⟨rfl, trivial⟩ ?_
  refine RunOF_sound tab_ok noX_local rfl rfl 200 [] _ _ rfl ?_ ?_
  · simp
  refine RunO.callFn noX_local rfl rfl rfl rfl rfl rfl rfl rfl right_enters rfl (fun w' _ => right_ok r w') ?_
  refine RunO.callFn noX_local rfl rfl rfl rfl rfl rfl rfl rfl right_enters rfl (fun w' _ => right_ok s w') ?_
  refine RunOF_sound tab_ok noX_local rfl rfl 1 [] _ _ rfl ?_ ?_
  · simp [segsVals, relV_one', inT, lk]
  refine RunO.effLast tab_ok noX_local rfl rfl rfl rfl ?_ (fun e => by cases e) rfl ?_
  · simp [segsVals, relV_one']
  by_cases h : (rightL r).n = (rightL s).n
  · have e : twoL r s = (rightL r, rightL s) := by unfold twoL; rw [if_pos h]
    rw [e]
    refine RunF_sound tab_ok noX_local 100 [false] _ _ rfl ?_ ?_
    · simp [h]
    refine Run.drawA noX_local rfl [] [(1, .cells 32 [.vals 65 (relV (rightL s))]), (0, .cells 32 [.vals 65 (relV (rightL r))])] rfl rfl ⟨rfl, rfl, trivial⟩ ?_
    refine RunOF_sound tab_ok noX_local rfl rfl 200 [] _ _ rfl ?_ ?_
    · simp [segsVals, relV_one', inT, lk]
    refine RunO.done ?_
    refine RunF_sound tab_ok noX_local 100 [] _ _ rfl ?_ ?_
    · simp
    refine Run.retL tab_ok Tryd.func44 rfl ?_ (fun M => rfl)
    simp
  · have e : twoL r s = (Rl.void 0, Rl.void 0) := by unfold twoL; rw [if_neg h]
    rw [e]
    refine RunF_sound tab_ok noX_local 100 [true] _ _ rfl ?_ ?_
    · simp [fillL, Value.cells, segsVals, relV_one', h]
    refine Run.retL tab_ok Tryd.func44 rfl ?_ (fun M => ?_)
    · simp [fillL, Value.cells]
    · rfl

theorem two_enters : Enters Tryd.prog 44 := enters_mk Tryd.func44 (by decide) rfl

def rowP (F : BitVec 64 → BitVec 64 → BitVec 64) (r s : Rl) (k : Nat) : Rl := Rl.by_ r.n fun i => if i < k then F (r.row i) (s.row i) else r.row i

theorem rowP_0 (F : BitVec 64 → BitVec 64 → BitVec 64) (r s : Rl) : rowP F r s 0 = r := by
  unfold rowP
  conv => rhs; rw [← by_row r]
  exact Rl.by_congr fun i _ => by simp

theorem rowP_row (F : BitVec 64 → BitVec 64 → BitVec 64) (r s : Rl) (k : Nat) (hk : k < 64) : (rowP F r s k).row k = r.row k := by
  rw [rowP, Rl.row_by, if_pos hk, if_neg (by omega)]

theorem rowP_step (F : BitVec 64 → BitVec 64 → BitVec 64) (r s : Rl) (k : Nat) : (rowP F r s k).setRow k (F (r.row k) (s.row k)) = rowP F r s (k + 1) := by
  unfold rowP
  rw [Rl.set_by]
  refine Rl.by_congr fun i _ => ?_
  by_cases h : k = i
  · subst h; simp
  · rw [if_neg h]
    have : (i < k) ↔ (i < k + 1) := by omega
    simp only [this]

noncomputable def opL (F : BitVec 64 → BitVec 64 → BitVec 64) (r s : Rl) : Rl := rowP F (twoL r s).1 (twoL r s).2 (twoL r s).1.n.toNat

theorem twoL_b (r s : Rl) : 0 ≤ (twoL r s).1.n ∧ (twoL r s).1.n ≤ 64 := by
  rw [← (twoL_right r s).1]; exact rightL_n _

theorem rowwise_ok (g : FuncId) (F : BitVec 64 → BitVec 64 → BitVec 64) (hent : Enters Tryd.prog g) (hg : ∀ a b w, Gives Tryd.prog g [.int .u64 (un a), .int .u64 (un b)] w (.int .u64 (un (F a b)))) (r s : Rl) (w : World) :
    Gives Tryd.prog 42 [encRel r, encRel s, .func (.func g) #[] #[]] w (encRel (opL F r s)) := by
  refine Gives.of_run Tryd.func42 rfl (by show 3 ≤ 34; decide) ?_
  refine RunF_sound tab_ok noX_local 100 [] _ _ rfl ?_ ?_
  · simp
  refine Run.callFn noX_local rfl rfl rfl rfl rfl rfl rfl two_enters rfl (fun w' _ => two_ok r s w') ?_
  have hn := twoL_b r s
  unfold opL
  generalize (twoL r s).1 = R at hn
  generalize (twoL r s).2 = S at hn
  refine RunF_sound tab_ok noX_local 100 [] _ _ rfl ?_ ?_
  · simp [segsVals, relV_one']
  suffices H : ∀ (d k : Nat), (k : Int) + d = R.n → ∀ σ, inT σ.t [(2, .v (.func (.func g) #[] #[])), (3, .ptr 0 0), (4, .ptr 1 0), (6, .ptr 2 0), (15, .v (.int .i64 R.n)), (16, .v (.int .i64 (k : Int)))] →
      inT σ.h [(0, .cells 32 [.vals 65 (relV (rowP F R S k))]), (1, .cells 32 [.vals 65 (relV S)]), (2, .cells 32 [.vals 65 (relV (Rl.void 0))])] → Run _ _ σ by
    refine H R.n.toNat 0 (by omega) _ ⟨rfl, rfl, rfl, rfl, ?_, rfl, trivial⟩ ⟨?_, ?_, rfl, trivial⟩
    · simp [lk]
    · rw [rowP_0]; simp [lk]
    · simp [lk]
  intro d
  induction d with
  | zero =>
    intro k hk σ ht hh
    refine Run.to ?_ ht hh (n' := 3)
    refine RunF_sound tab_ok noX_local 100 [false] _ _ rfl ?_ ?_
    · simp [relV_one', segsVals]; omega
    · refine Run.retP tab_ok Tryd.func42 rfl ?_ (fun M => ?_)
      · simp
      have : R.n.toNat = k := by omega
      rw [this]; rfl
  | succ d ih =>
    intro k hk σ ht hh
    refine Run.to ?_ ht hh (n' := 3)
    have hk' : k < 64 := by omega
    refine RunF_sound tab_ok noX_local 100 [true] _ _ rfl ?_ ?_
    · simp; omega
    refine Run.drawA noX_local rfl [5] [(1, .cells 32 [.vals 65 (relV S)])] rfl rfl ⟨rfl, trivial⟩ ?_
    refine RunOF_sound tab_ok noX_local rfl rfl 100 [] _ _ rfl ?_ ?_
    · simp [relV_get _ _ hk', intAt_row _ _ hk']; omega
    refine RunO.callFv (cs := []) (f := g) (r := .int .u64 (un (F (R.row k) (S.row k)))) noX_local rfl rfl rfl rfl rfl rfl rfl rfl hent rfl (fun w' _ => ?_) ?_
    · have e1 : intAt (relV (rowP F R S k)) (1 - 0 + (k : Int).toNat * 1) = un (R.row k) := by
        rw [show 1 - 0 + (k : Int).toNat * 1 = 1 + k by simp, intAt_row _ _ hk', rowP_row F R S k hk']
      have e2 : intAt (relV S) (1 - 0 + (k : Int).toNat * 1) = un (S.row k) := by
        rw [show 1 - 0 + (k : Int).toNat * 1 = 1 + k by simp, intAt_row _ _ hk']
      have := hg (R.row k) (S.row k) w'
      rw [← e1, ← e2] at this
      exact this
    refine RunOF_sound tab_ok noX_local rfl rfl 100 [] _ _ rfl ?_ ?_
    · simp [okCell, Value.oneCell', inT, lk]; omega
    refine RunO.done ?_
    refine RunF_sound tab_ok noX_local 100 [] _ _ rfl ?_ ?_
    · simp
    refine ih (k + 1) (by omega) _ ⟨rfl, rfl, rfl, rfl, rfl, i64_eq (wrap_succ (by omega)), trivial⟩ ⟨congrArg (fun l => some (Blk.cells 32 [.vals 65 l])) ?_, rfl, rfl, trivial⟩
    simp [relV_set _ _ hk', rowP_step]

theorem rowwise_enters : Enters Tryd.prog 42 := enters_mk Tryd.func42 (by decide) rfl

theorem andn_ok (a b : BitVec 64) (w : World) : Gives Tryd.prog 43 [.int .u64 (un a), .int .u64 (un b)] w (.int .u64 (un (a &&& ~~~b))) := by
  refine Gives.of_run Tryd.func43 rfl (by show 2 ≤ 8; decide) ?_
  refine RunF_sound tab_ok noX_local 100 [] _ _ rfl ?_ ?_
  · simp
  exact Run.retP tab_ok Tryd.func43 rfl trivial (fun M => by show Value.int _ _ = _; rw [bandn_un])

theorem andn_enters : Enters Tryd.prog 43 := enters_mk Tryd.func43 (by decide) rfl

theorem minus_ok (r s : Rl) (w : World) : Gives Tryd.prog 25 [encRel r, encRel s] w (encRel (opL (fun a b => a &&& ~~~b) r s)) := by
  refine Gives.of_run Tryd.func25 rfl (by show 2 ≤ 8; decide) ?_
  refine RunF_sound tab_ok noX_local 100 [] _ _ rfl ?_ ?_
  · simp
  refine Run.callM noX_local rfl rfl rfl rfl rfl rfl rowwise_enters rfl (fun M w' _ _ => rowwise_ok 43 (fun a b => a &&& ~~~b) andn_enters andn_ok r s w') ?_
  refine RunF_sound tab_ok noX_local 100 [] _ _ rfl ?_ ?_
  · simp [segsVals, relV_one']
  refine Run.retP tab_ok Tryd.func25 rfl ?_ (fun M => ?_)
  · simp
  rfl

theorem minus_enters : Enters Tryd.prog 25 := enters_mk Tryd.func25 (by decide) rfl

def invF (n : Int) (l : List (Int × Int)) : Rl := l.foldl (fun o e => o.setRow e.2.toNat (o.row e.2.toNat ||| 1#64 <<< e.1.toNat)) (Rl.void n)

theorem invF_app (n : Int) (l : List (Int × Int)) (e : Int × Int) : invF n (l ++ [e]) = (invF n l).setRow e.2.toNat ((invF n l).row e.2.toNat ||| 1#64 <<< e.1.toNat) := by
  unfold invF; rw [List.foldl_append]; rfl

def cmpF (s : Rl) (n : Int) (l : List (Int × Int)) : Rl := l.foldl (fun o e => o.setRow e.1.toNat (o.row e.1.toNat ||| s.row e.2.toNat)) (Rl.void n)

theorem cmpF_app (s : Rl) (n : Int) (l : List (Int × Int)) (e : Int × Int) : cmpF s n (l ++ [e]) = (cmpF s n l).setRow e.1.toNat ((cmpF s n l).row e.1.toNat ||| s.row e.2.toNat) := by
  unfold cmpF; rw [List.foldl_append]; rfl

/-- Where the pairs are. -/
theorem restL_mem (r : Rl) : ∀ d i e, e ∈ restL r i d → ∃ a b : Nat, e = ((a : Int), (b : Int)) ∧ i ≤ a ∧ a < i + d ∧ r.has a b = true
  | 0, i, e, h => by cases h
  | d + 1, i, e, h => by
    rw [restL, List.mem_append] at h
    rcases h with h | h
    · obtain ⟨b, hb, rfl⟩ := List.mem_map.1 h
      exact ⟨i, b, rfl, Nat.le_refl _, by omega, (bitsL_mem _ _).1 hb⟩
    · obtain ⟨a, b, h1, h2, h3, h4⟩ := restL_mem r d (i + 1) e h
      exact ⟨a, b, h1, by omega, by omega, h4⟩

theorem edges_mem (r : Rl) (e : Int × Int) (h : e ∈ edgesL r) : ∃ a b : Nat, e = ((a : Int), (b : Int)) ∧ a < 64 ∧ b < 64 ∧ r.has a b = true := by
  obtain ⟨a, b, h1, h2, h3, h4⟩ := restL_mem r _ _ e h
  obtain ⟨h5, h6⟩ := Rl.has_lt r h4
  exact ⟨a, b, h1, h5, h6, h4⟩

/-- The blocks of Inverse. -/
def invBlk (r o : Rl) : List (Nat × Blk) := [(2, .cells 32 [.vals 65 (relV o)]), (1, .cells 32 [.vals 65 (relV (Rl.void 0))]), (0, .cells 32 [.vals 65 (relV r)])]

theorem inverse_ok (r : Rl) (w : World) (hT : TabAt w) (h0 : 0 < w.heap.size) : Gives Tryd.prog 27 [encRel r] w (encRel (invF (rightL r).n (edgesL (rightL r)))) := by
  refine Gives.of_run Tryd.func27 rfl (by show 1 ≤ 24; decide) ?_
  refine RunF_sound tab_ok noX_local 100 [] _ _ rfl ?_ ?_
  · simp
  refine Run.callFn noX_local rfl rfl rfl rfl rfl rfl rfl right_enters rfl (fun w' _ => right_ok r w') ?_
  refine RunF_sound tab_ok noX_local 100 [] _ _ rfl ?_ ?_
  · simp [fillL, Value.cells, segsVals, relV_tail_one, splice]
  refine Run.callR noX_local rfl rfl rfl rfl rfl rfl edges_enters rfl (fun M w' _ _ => edges_ok r w') ?_
  rintro v w2 w1 S1 hag hag2 ⟨bb, rfl, hbl, hRel⟩ hS1
  have hB1 := (Based.refl w).call hag hag2 hS1
  have hbw1 : bb < w1.heap.size := World.block_lt_of_cell? w1 _ (hRel 0 _ rfl)
  have hS1b : ¬ S1 bb := hS1.new bb hbl
  have hS10 : ¬ S1 0 := fun h => by have := hB1.new 0 h; omega
  have hw1 : 0 < w1.heap.size := by have := hB1.agree.size; omega
  have hn := rightL_n r
  have hit := edges_iter (rightL r) hn bb w1 hRel (hT.agree hB1.agree (fun f => f))
  have hmem := edges_mem (rightL r)
  generalize rightL r = R at *
  generalize edgesL R = E at *
  refine ⟨.fn 53 [.v (.pointer (some ⟨bb, 0, none⟩))], fun M => rfl, ?_⟩
  refine RunF_sound tab_ok noX_local 100 [] _ _ rfl ?_ ?_
  · simp
  refine Run.rangeFn noX_local rfl rfl (fun M => rfl) edgesIt_enters 4 [(3, .ptr 2 0), (2, .ptr 1 0)] ⟨rfl, rfl, trivial⟩ rfl rfl hit
    (fun k hk => by rcases hk with rfl | rfl; exact ⟨hw1, hS10⟩; exact ⟨hbw1, hS1b⟩) (fun x hx => by simp only [encEs, List.mem_map] at hx; obtain ⟨e, _, rfl⟩ := hx; rfl)
    (fun pre h => ∃ k, k ≤ E.length ∧ pre = encEs (E.take k) ∧ h = invBlk r (invF R.n (E.take k)))
    (fun _ _ _ => False) 12 (invBlk r (invF R.n [])) ⟨0, by omega, rfl, rfl⟩ ⟨?_, rfl, rfl, trivial⟩ ?_ ?_ ?_
  · show _ = some (Blk.cells 32 [.vals 65 (relV (Rl.void R.n))])
    rfl
  · rintro D l a0 rc wy fpy pre x h hI hpx ⟨k, hk, rfl, rfl⟩
    obtain ⟨hlt, rfl⟩ := encEs_next hk hpx
    obtain ⟨a, b, he, ha, hb, hab⟩ := hmem E[k] (List.getElem_mem hlt)
    have hts : E.take (k + 1) = E.take k ++ [E[k]] := List.take_succ_eq_append_getElem hlt
    have hstep : invF R.n (E.take (k + 1)) = (invF R.n (E.take k)).setRow b ((invF R.n (E.take k)).row b ||| 1#64 <<< a) := by
      rw [hts, invF_app, he]; simp
    have hnext : encEs (E.take k) ++ [encEd E[k]] = encEs (E.take (k + 1)) := encEs_succ hlt
    rw [he] at hnext ⊢
    generalize invF R.n (E.take k) = o at hstep ⊢
    refine RunF_sound tab_ok (roundX_local hI.loc l rc .ready) 100 [] _ _ rfl ?_ ?_
    · simp [segsVals]
    refine Run.beginRound hI.loc hI.lw ?_
    refine RunF_sound tab_ok (roundX_local hI.loc l rc .busy) 100 [] _ _ rfl ?_ ?_
    · simp
    refine Run.drawA (roundX_local hI.loc l rc .busy) rfl [4] [(12, .cells 83 [.vals 2 [.int .i64 (a : Int), .int .i64 (b : Int)]])] rfl rfl ⟨rfl, trivial⟩ ?_
    refine RunOF_sound tab_ok (roundX_local hI.loc l rc .busy) rfl rfl 100 [] _ _ rfl ?_ ?_
    · simp [relV_get _ _ hb, intAt_row _ _ hb, okCell, Value.oneCell', inT, lk]; omega
    refine RunO.done ?_
    refine RunF_sound tab_ok (roundX_local hI.loc l rc .busy) 100 [] _ _ rfl ?_ ?_
    · simp
    refine Run.roundEnd hI [] (invBlk r (invF R.n (E.take (k + 1)))) ⟨k + 1, by omega, hnext, rfl⟩ ⟨rfl, rfl, trivial⟩ ⟨?_, rfl, rfl, trivial⟩ rfl
    refine congrArg (fun l => some (Blk.cells 32 [.vals 65 l])) ?_
    rw [hstep]
    simp [intAt_row _ _ hb, shl1_un, relV_set _ _ hb]
  · rintro D h ⟨k, hk, hx, rfl⟩
    have hke := encEs_all hk hx
    have e1 : E.take k = E := List.take_of_length_le (by omega)
    rw [e1]
    refine RunF_sound tab_ok (markX_local noX_local D) 100 [] _ _ rfl ?_ ?_
    · simp [segsVals, relV_one']
    refine Run.retB (Ds := [D]) tab_ok noX_local hB1 Tryd.func27 rfl ?_ (fun M => ?_)
    · simp
    rfl
  · rintro D pre c h hpre hF
    exact hF.elim

theorem inverse_enters : Enters Tryd.prog 27 := enters_mk Tryd.func27 (by decide) rfl

def cmpBlk (r s o : Rl) : List (Nat × Blk) := [(3, .cells 32 [.vals 65 (relV o)]), (2, .cells 32 [.vals 65 (relV (Rl.void 0))]), (1, .cells 32 [.vals 65 (relV s)]), (0, .cells 32 [.vals 65 (relV r)])]

noncomputable def composeL (r s : Rl) : Rl := cmpF (twoL r s).2 (twoL r s).1.n (edgesL (twoL r s).1)

theorem compose_ok (r s : Rl) (w : World) (hT : TabAt w) (h0 : 0 < w.heap.size) : Gives Tryd.prog 26 [encRel r, encRel s] w (encRel (composeL r s)) := by
  refine Gives.of_run Tryd.func26 rfl (by show 2 ≤ 33; decide) ?_
  refine RunF_sound tab_ok noX_local 100 [] _ _ rfl ?_ ?_
  · simp
  refine Run.callFn noX_local rfl rfl rfl rfl rfl rfl rfl two_enters rfl (fun w' _ => two_ok r s w') ?_
  have hn := twoL_b r s
  have hrt := (twoL_right r s).1
  unfold composeL
  generalize (twoL r s).1 = R at hn hrt
  generalize (twoL r s).2 = S at hn hrt
  refine RunF_sound tab_ok noX_local 100 [] _ _ rfl ?_ ?_
  · simp [fillL, Value.cells, segsVals, relV_one', relV_tail_one, splice]
  refine Run.callR (Q := fun v w w' => ∃ b, v = edgesF b ∧ w.heap.size ≤ b ∧ RelAt w' b R) noX_local rfl rfl rfl rfl rfl rfl edges_enters rfl (fun M w' _ _ => ?_) ?_
  · have := edges_ok R w'
    rw [hrt] at this
    simp only [List.append_nil]
    exact this
  rintro v w2 w1 S1 hag hag2 ⟨bb, rfl, hbl, hRel⟩ hS1
  have hB1 := (Based.refl w).call hag hag2 hS1
  have hbw1 : bb < w1.heap.size := World.block_lt_of_cell? w1 _ (hRel 0 _ rfl)
  have hS1b : ¬ S1 bb := hS1.new bb hbl
  have hS10 : ¬ S1 0 := fun h => by have := hB1.new 0 h; omega
  have hw1 : 0 < w1.heap.size := by have := hB1.agree.size; omega
  have hit := edges_iter R hn bb w1 hRel (hT.agree hB1.agree (fun f => f))
  have hmem := edges_mem R
  generalize edgesL R = E at *
  refine ⟨.fn 53 [.v (.pointer (some ⟨bb, 0, none⟩))], fun M => rfl, ?_⟩
  refine RunF_sound tab_ok noX_local 100 [] _ _ rfl ?_ ?_
  · simp
  refine Run.rangeFn noX_local rfl rfl (fun M => rfl) edgesIt_enters 6 [(5, .ptr 3 0), (4, .ptr 2 0), (3, .ptr 1 0)] ⟨rfl, rfl, rfl, trivial⟩ rfl rfl hit
    (fun k hk => by rcases hk with rfl | rfl; exact ⟨hw1, hS10⟩; exact ⟨hbw1, hS1b⟩) (fun x hx => by simp only [encEs, List.mem_map] at hx; obtain ⟨e, _, rfl⟩ := hx; rfl)
    (fun pre h => ∃ k, k ≤ E.length ∧ pre = encEs (E.take k) ∧ h = cmpBlk R S (cmpF S R.n (E.take k)))
    (fun _ _ _ => False) 12 (cmpBlk R S (cmpF S R.n [])) ⟨0, by omega, rfl, rfl⟩ ⟨?_, rfl, ?_, ?_, trivial⟩ ?_ ?_ ?_
  · show _ = some (Blk.cells 32 [.vals 65 (relV (Rl.void R.n))])
    simp [lk]
    rfl
  · simp [lk]
  · simp [lk]
  · rintro D l a0 rc wy fpy pre x h hI hpx ⟨k, hk, rfl, rfl⟩
    obtain ⟨hlt, rfl⟩ := encEs_next hk hpx
    obtain ⟨a, b, he, ha, hb, hab⟩ := hmem E[k] (List.getElem_mem hlt)
    have hts : E.take (k + 1) = E.take k ++ [E[k]] := List.take_succ_eq_append_getElem hlt
    have hstep : cmpF S R.n (E.take (k + 1)) = (cmpF S R.n (E.take k)).setRow a ((cmpF S R.n (E.take k)).row a ||| S.row b) := by
      rw [hts, cmpF_app, he]; simp
    have hnext : encEs (E.take k) ++ [encEd E[k]] = encEs (E.take (k + 1)) := encEs_succ hlt
    rw [he] at hnext ⊢
    generalize cmpF S R.n (E.take k) = o at hstep ⊢
    refine RunF_sound tab_ok (roundX_local hI.loc l rc .ready) 100 [] _ _ rfl ?_ ?_
    · simp [segsVals]
    refine Run.beginRound hI.loc hI.lw ?_
    refine RunF_sound tab_ok (roundX_local hI.loc l rc .busy) 100 [] _ _ rfl ?_ ?_
    · simp
    refine Run.drawA (roundX_local hI.loc l rc .busy) rfl [4] [(12, .cells 83 [.vals 2 [.int .i64 (a : Int), .int .i64 (b : Int)]]), (1, .cells 32 [.vals 65 (relV S)])] rfl rfl ⟨rfl, rfl, trivial⟩ ?_
    refine RunOF_sound tab_ok (roundX_local hI.loc l rc .busy) rfl rfl 100 [] _ _ rfl ?_ ?_
    · simp [relV_get _ _ hb, relV_get _ _ ha, intAt_row _ _ hb, intAt_row _ _ ha, okCell, Value.oneCell', inT, lk]; omega
    refine RunO.done ?_
    refine RunF_sound tab_ok (roundX_local hI.loc l rc .busy) 100 [] _ _ rfl ?_ ?_
    · simp
    refine Run.roundEnd hI [] (cmpBlk R S (cmpF S R.n (E.take (k + 1)))) ⟨k + 1, by omega, hnext, rfl⟩ ⟨rfl, rfl, rfl, trivial⟩ ⟨?_, rfl, rfl, rfl, trivial⟩ rfl
    refine congrArg (fun l => some (Blk.cells 32 [.vals 65 l])) ?_
    rw [hstep]
    simp [intAt_row _ _ hb, intAt_row _ _ ha, relV_set _ _ ha]
  · rintro D h ⟨k, hk, hx, rfl⟩
    have hke := encEs_all hk hx
    have e1 : E.take k = E := List.take_of_length_le (by omega)
    rw [e1]
    refine RunF_sound tab_ok (markX_local noX_local D) 100 [] _ _ rfl ?_ ?_
    · simp [segsVals, relV_one']
    refine Run.retB (Ds := [D]) tab_ok noX_local hB1 Tryd.func26 rfl ?_ (fun M => ?_)
    · simp
    rfl
  · rintro D pre c h hpre hF
    exact hF.elim

theorem compose_enters : Enters Tryd.prog 26 := enters_mk Tryd.func26 (by decide) rfl

/-! ### Where the pairs of a fold are -/

theorem invF_n (n : Int) : ∀ l : List (Int × Int), (invF n l).n = n := by
  intro l
  unfold invF
  suffices H : ∀ (l : List (Int × Int)) (o : Rl), (l.foldl (fun o e => o.setRow e.2.toNat (o.row e.2.toNat ||| 1#64 <<< e.1.toNat)) o).n = o.n from H l _
  intro l
  induction l with
  | nil => intro o; rfl
  | cons e l ih => intro o; rw [List.foldl_cons, ih, Rl.n_setRow]

theorem cmpF_n (s : Rl) (n : Int) : ∀ l : List (Int × Int), (cmpF s n l).n = n := by
  intro l
  unfold cmpF
  suffices H : ∀ (l : List (Int × Int)) (o : Rl), (l.foldl (fun o e => o.setRow e.1.toNat (o.row e.1.toNat ||| s.row e.2.toNat)) o).n = o.n from H l _
  intro l
  induction l with
  | nil => intro o; rfl
  | cons e l ih => intro o; rw [List.foldl_cons, ih, Rl.n_setRow]

theorem invF_has (l : List (Int × Int)) (hl : ∀ e ∈ l, e.1.toNat < 64 ∧ e.2.toNat < 64) : ∀ (o : Rl) (x y : Nat),
    (l.foldl (fun o e => o.setRow e.2.toNat (o.row e.2.toNat ||| 1#64 <<< e.1.toNat)) o).has x y = (o.has x y || l.any fun e => decide (e.2.toNat = x) && decide (e.1.toNat = y)) := by
  induction l with
  | nil => intro o x y; simp
  | cons e l ih =>
    intro o x y
    have he := hl e (List.mem_cons_self ..)
    rw [List.foldl_cons, ih (fun e' h' => hl e' (List.mem_cons_of_mem _ h')), Rl.has_setRow, List.any_cons, ← Bool.or_assoc]
    congr 1
    by_cases hx : e.2.toNat = x
    · subst hx
      rw [if_pos ⟨rfl, he.2⟩, BitVec.getLsbD_or, one_shl_get _ _ he.1]
      have : ∀ a b : Nat, decide (a = b) = decide (b = a) := fun a b => decide_eq_decide.2 eq_comm
      rw [this y]
      simp [Rl.has]
    · rw [if_neg (by simp [hx])]; simp [hx]

theorem cmpF_has (s : Rl) (l : List (Int × Int)) (hl : ∀ e ∈ l, e.1.toNat < 64) : ∀ (o : Rl) (x y : Nat),
    (l.foldl (fun o e => o.setRow e.1.toNat (o.row e.1.toNat ||| s.row e.2.toNat)) o).has x y = (o.has x y || l.any fun e => decide (e.1.toNat = x) && s.has e.2.toNat y) := by
  induction l with
  | nil => intro o x y; simp
  | cons e l ih =>
    intro o x y
    have he := hl e (List.mem_cons_self ..)
    rw [List.foldl_cons, ih (fun e' h' => hl e' (List.mem_cons_of_mem _ h')), Rl.has_setRow, List.any_cons, ← Bool.or_assoc]
    congr 1
    by_cases hx : e.1.toNat = x
    · subst hx
      rw [if_pos ⟨rfl, he⟩, BitVec.getLsbD_or]
      simp [Rl.has]
    · rw [if_neg (by simp [hx])]; simp [hx]

theorem edges_has (r : Rl) (a b : Nat) : ((a : Int), (b : Int)) ∈ edgesL (rightL r) ↔ (rightL r).has a b = true := by
  have hn := rightL_n r
  constructor
  · intro h
    obtain ⟨a', b', h1, _, _, h4⟩ := edges_mem _ _ h
    simp only [Prod.mk.injEq, Int.natCast_inj] at h1
    rw [h1.1, h1.2]; exact h4
  · intro h
    have hb := right_has r a b h
    suffices H : ∀ d i, i ≤ a → a < i + d → ((a : Int), (b : Int)) ∈ restL (rightL r) i d from H _ 0 (Nat.zero_le _) (by omega)
    intro d
    induction d with
    | zero => intro i h1 h2; omega
    | succ d ih =>
      intro i h1 h2
      rw [restL, List.mem_append]
      by_cases he : i = a
      · subst he
        exact .inl (List.mem_map.2 ⟨b, (bitsL_mem _ _).2 h, rfl⟩)
      · exact .inr (ih (i + 1) (by omega) (by omega))

/-- Inverse, pair by pair. -/
theorem inverse_has (r : Rl) (x y : Nat) : (invF (rightL r).n (edgesL (rightL r))).has x y = (rightL r).has y x := by
  unfold invF
  rw [invF_has _ (fun e he => by obtain ⟨a, b, rfl, h1, h2, _⟩ := edges_mem _ _ he; exact ⟨by simpa using h1, by simpa using h2⟩), Rl.gen_void, Rl.has_gen]
  rw [Bool.and_false, Bool.false_or, Bool.eq_iff_iff, List.any_eq_true]
  constructor
  · rintro ⟨e, he, h⟩
    obtain ⟨a, b, rfl, _, _, h4⟩ := edges_mem _ _ he
    simp at h
    rw [← h.1, ← h.2]; exact h4
  · intro h
    exact ⟨((y : Int), (x : Int)), (edges_has r y x).2 h, by simp⟩

/-- Compose, pair by pair. -/
theorem compose_has (r s : Rl) (x y : Nat) : (composeL r s).has x y = (List.range 64).any fun c => (twoL r s).1.has x c && (twoL r s).2.has c y := by
  unfold composeL cmpF
  have hr := (twoL_right r s).1
  rw [cmpF_has _ _ (fun e he => by obtain ⟨a, b, rfl, h1, h2, _⟩ := edges_mem _ _ he; simpa using h1), Rl.gen_void, Rl.has_gen]
  rw [Bool.and_false, Bool.false_or, Bool.eq_iff_iff, List.any_eq_true, List.any_eq_true]
  constructor
  · rintro ⟨e, he, h⟩
    obtain ⟨a, b, rfl, _, hb, h4⟩ := edges_mem _ _ he
    simp at h
    exact ⟨b, List.mem_range.2 hb, by rw [← h.1, h4]; simpa using h.2⟩
  · rintro ⟨c, _, h⟩
    simp only [Bool.and_eq_true] at h
    refine ⟨((x : Int), (c : Int)), ?_, by simpa using h.2⟩
    rw [← hr]
    exact (edges_has _ x c).2 (by rw [hr]; exact h.1)

/-- Which pairs stand in an operation of two. -/
def pTwo (op : Nat) (R S : Rl) (x y : Nat) : Bool :=
  match op with
  | 0 => R.has x y || S.has x y
  | 1 => R.has x y && S.has x y
  | 2 => R.has x y && !S.has x y
  | _ => (List.range R.n.toNat).any fun c => R.has x c && S.has c y

noncomputable def twoR (op : Nat) (r s : Rl) : Rl := Rl.gen (twoL r s).1.n (pTwo op (twoL r s).1 (twoL r s).2)

/-- An operation row by row, pair by pair. -/
theorem opL_gen (F : BitVec 64 → BitVec 64 → BitVec 64) (op : Nat) (h0 : F 0#64 0#64 = 0#64) (hF : ∀ R S : Rl, ∀ x y, y < 64 → (F (R.row x) (S.row x)).getLsbD y = pTwo op R S x y) (r s : Rl) : opL F r s = twoR op r s := by
  have hr := twoL_right r s
  have hn := twoL_n r s
  have hb := twoL_b r s
  unfold opL twoR
  generalize (twoL r s).1 = R at hr hn hb
  generalize (twoL r s).2 = S at hr hn
  apply Rl.ext_has
  · rw [Rl.n_gen]; exact Rl.n_by _ _
  · intro x y hx hy
    rw [Rl.has_gen, decide_eq_true ⟨hx, hy⟩, Bool.true_and, ← hF R S x y hy]
    show ((rowP F R S R.n.toNat).row x).getLsbD y = _
    unfold rowP
    rw [Rl.row_by, if_pos hx]
    by_cases hlt : x < R.n.toNat
    · rw [if_pos hlt]
    · rw [if_neg hlt, row0_of hr.1 (by omega), row0_of hr.2 (show S.n ≤ (x : Int) by omega), h0]

theorem minus_eq (r s : Rl) : opL (fun a b => a &&& ~~~b) r s = twoR 2 r s := opL_gen _ 2 (by decide) (fun R S x y hy => by rw [BitVec.getLsbD_and, BitVec.getLsbD_not, decide_eq_true hy, Bool.true_and]; rfl) r s

theorem compose_eq (r s : Rl) : composeL r s = twoR 3 r s := by
  have hr := twoL_right r s
  have hb := twoL_b r s
  apply Rl.ext_has
  · unfold composeL twoR
    rw [cmpF_n, Rl.n_gen]
  · intro x y hx hy
    rw [compose_has]
    unfold twoR
    rw [Rl.has_gen, decide_eq_true ⟨hx, hy⟩, Bool.true_and]
    generalize (twoL r s).1 = R at hr hb
    generalize (twoL r s).2 = S at hr
    show _ = (List.range R.n.toNat).any fun c => R.has x c && S.has c y
    rw [Bool.eq_iff_iff, List.any_eq_true, List.any_eq_true]
    constructor
    · rintro ⟨c, _, h⟩
      have h1 := (Bool.and_eq_true_iff.1 h).1
      have := right_has R x c (by rw [hr.1]; exact h1)
      rw [hr.1] at this
      exact ⟨c, List.mem_range.2 (by omega), h⟩
    · rintro ⟨c, hc, h⟩
      have := List.mem_range.1 hc
      exact ⟨c, List.mem_range.2 (by omega), h⟩

theorem inverse_eq (r : Rl) : invF (rightL r).n (edgesL (rightL r)) = Rl.gen (rightL r).n fun x y => (rightL r).has y x := by
  apply Rl.ext_has
  · rw [invF_n, Rl.n_gen]
  · intro x y hx hy
    rw [inverse_has, Rl.has_gen, decide_eq_true ⟨hx, hy⟩, Bool.true_and]

end Go.Proofs.YtehimiadpgbhmaaDoor

/-
  An execution as a value; lists of numbers in a world; the reads-from and coherence relations, in plain Lean. Own work.
-/
namespace Go.Proofs.YtehimiadpgbhmaaDoor
open Go.AM
set_option maxRecDepth 100000

/-- A slice of numbers, as it lies in a world. -/
def SeesI (w : World) (p : Option Addr) (xs : List Int) : Prop :=
  ∀ i (h : i < xs.length), p = some (p.getD default) ∧ w.cell? ((p.getD default).add i) = some (.int .i64 xs[i])
theorem SeesI.agree {S : Nat → Prop} {w w' : World} {p : Option Addr} {xs : List Int} (h : SeesI w p xs) (hA : Agree S w w') (hS : ∀ a, p = some a → ¬ S a.block) : SeesI w' p xs := by
  intro i hi
  obtain ⟨h1, h2⟩ := h i hi
  exact ⟨h1, hA.cell h2 (by rw [add_block]; exact hS _ h1)⟩

/-- A slice of slices of numbers. -/
def SeesII (w : World) (p : Option Addr) (xss : List (List Int)) : Prop :=
  ∀ i (h : i < xss.length), p = some (p.getD default) ∧ ∃ q c, w.cell? ((p.getD default).add i) = some (.slice q xss[i].length c) ∧ SeesI w q xss[i]
theorem SeesII.agree {w w' : World} {p : Option Addr} {xss : List (List Int)} (h : SeesII w p xss) (hA : Agree (fun _ => False) w w') : SeesII w' p xss := by
  intro i hi
  obtain ⟨h1, q, c, h2, h3⟩ := h i hi
  exact ⟨h1, q, c, hA.cell h2 (fun h => h), h3.agree hA (fun _ _ h => h)⟩

/-- An execution: its events, whence reads read, and the orders; the rest is not looked at. -/
structure Xn where
  ev : List Ev
  from_ : List Int
  ord : List (List Int)
  pe : Option Addr
  ce : Nat
  u1 : Value
  pf : Option Addr
  cf : Nat
  po : Option Addr
  co : Nat
  u4 : Value
def xV (x : Xn) : List Value := [.slice x.pe x.ev.length x.ce, x.u1, .slice x.pf x.from_.length x.cf, .slice x.po x.ord.length x.co, x.u4]
def encX (x : Xn) : Value := .agg (xV x).toArray
structure SeesX (w : World) (x : Xn) : Prop where
  ev : SeesV w x.pe x.ev
  from_ : SeesI w x.pf x.from_
  ord : SeesII w x.po x.ord
  one1 : x.u1.oneCell' = true
  one4 : x.u4.oneCell' = true
  cap : x.from_.length ≤ x.cf
  lf : x.from_.length ≤ maxLen
  lo : x.ord.length ≤ maxLen
  lo2 : ∀ c ∈ x.ord, c.length ≤ maxLen
theorem SeesX.agree {w w' : World} {x : Xn} (h : SeesX w x) (hA : Agree (fun _ => False) w w') : SeesX w' x :=
  ⟨h.ev.agree hA (fun _ _ h => h), h.from_.agree hA (fun _ _ h => h), h.ord.agree hA, h.one1, h.one4, h.cap, h.lf, h.lo, h.lo2⟩
theorem xV_one {x : Xn} (h1 : x.u1.oneCell' = true) (h4 : x.u4.oneCell' = true) : (∀ c ∈ xV x, c.oneCell' = true) ↔ True := iff_true_intro fun c hc => by
  simp only [xV, List.mem_cons, List.not_mem_nil, or_false] at hc
  rcases hc with rfl | rfl | rfl | rfl | rfl
  · rfl
  · exact h1
  · rfl
  · rfl
  · exact h4
@[simp] theorem xV_0 (x : Xn) : (xV x)[0]? = some (.slice x.pe x.ev.length x.ce) := rfl
@[simp] theorem xV_2 (x : Xn) : (xV x)[2]? = some (.slice x.pf x.from_.length x.cf) := rfl
@[simp] theorem xV_3 (x : Xn) : (xV x)[3]? = some (.slice x.po x.ord.length x.co) := rfl
@[simp] theorem slOf_slice (p : Option Addr) (n c : Nat) : slOf (some (.slice p n c)) = (p, n, c) := rfl

/-- The pairs that the first k numbers say. -/
def rfP (n : Int) (fr : List Int) (k : Nat) : Rl := Rl.gen n fun x y => decide (y < k) && (decide ((x : Int) < n) && decide (fr[y]? = some (x : Int)))
def rfL (n : Nat) (fr : List Int) : Rl := rfP n fr (min n fr.length)
theorem rfP_0 (n : Int) (fr : List Int) : rfP n fr 0 = Rl.void n := by
  rw [Rl.gen_void]; exact Rl.gen_congr fun a b _ _ => by simp
theorem rfP_yes {n : Int} {fr : List Int} {k v : Nat} (hk : k < 64) (hv : v < 64) (hn : (v : Int) < n) (h : fr[k]? = some (v : Int)) : (rfP n fr k).setRow v ((rfP n fr k).row v ||| 1#64 <<< k) = rfP n fr (k + 1) := by
  unfold rfP
  rw [Rl.gen_add _ _ _ _ hv hk]
  refine Rl.gen_congr fun x y _ _ => ?_
  by_cases hy : y = k
  · subst hy
    rw [h]
    by_cases hx : x = v
    · subst hx; simp [hn]
    · have : ¬ (v : Int) = (x : Int) := by omega
      simp [hx, this]
  · have : decide (y < k + 1) = decide (y < k) := decide_eq_decide.2 (by omega)
    simp [hy, this]
theorem rfP_no {n : Int} {fr : List Int} {k : Nat} (h : ∀ v : Nat, (v : Int) < n → fr[k]? ≠ some (v : Int)) : rfP n fr k = rfP n fr (k + 1) := by
  unfold rfP
  refine Rl.gen_congr fun x y _ _ => ?_
  by_cases hy : y = k
  · subst hy
    by_cases hx : (x : Int) < n
    · simp [h x hx]
    · simp [hx]
  · have : decide (y < k + 1) = decide (y < k) := decide_eq_decide.2 (by omega)
    simp [this]

/-- One number more in a chain: it stands behind all that are ahead of it. -/
def cP (R : Rl) (s : BitVec 64) (b k : Nat) : Rl := Rl.by_ R.n fun a => if a < k ∧ s.getLsbD a = true then R.row a ||| 1#64 <<< b else R.row a
theorem cP_n (R : Rl) (s : BitVec 64) (b k : Nat) : (cP R s b k).n = R.n := by unfold cP; exact Rl.n_by _ _
theorem cP_0 (R : Rl) (s : BitVec 64) (b : Nat) : cP R s b 0 = R := by
  unfold cP
  conv => rhs; rw [← by_row R]
  exact Rl.by_congr fun x _ => by simp
theorem cP_at {R : Rl} {s : BitVec 64} {b k : Nat} (hk : k < 64) : (cP R s b k).row k = R.row k := by
  unfold cP; rw [Rl.row_by, if_pos hk, if_neg (by omega)]
theorem cP_yes {R : Rl} {s : BitVec 64} {b k : Nat} (hk : k < 64) (h : s.getLsbD k = true) : (cP R s b k).setRow k ((cP R s b k).row k ||| 1#64 <<< b) = cP R s b (k + 1) := by
  rw [cP_at hk]
  unfold cP
  rw [Rl.set_by]
  refine Rl.by_congr fun x _ => ?_
  by_cases e : k = x
  · subst e; simp [h]
  · rw [if_neg e]
    have : (x < k ∧ s.getLsbD x = true) ↔ (x < k + 1 ∧ s.getLsbD x = true) := by constructor <;> rintro ⟨h1, h2⟩ <;> exact ⟨by omega, h2⟩
    simp only [this]
theorem cP_no {R : Rl} {s : BitVec 64} {b k : Nat} (h : s.getLsbD k = false) : cP R s b k = cP R s b (k + 1) := by
  unfold cP
  refine Rl.by_congr fun x _ => ?_
  by_cases e : k = x
  · subst e; simp [h]
  · have : (x < k ∧ s.getLsbD x = true) ↔ (x < k + 1 ∧ s.getLsbD x = true) := by constructor <;> rintro ⟨h1, h2⟩ <;> exact ⟨by omega, h2⟩
    simp only [this]
def cStep (n : Nat) (z : Rl × BitVec 64) (v : Int) : Rl × BitVec 64 := if v < 0 ∨ v ≥ (n : Int) then z else (cP z.1 z.2 v.toNat n, z.2 ||| 1#64 <<< v.toNat)
def cChain (n : Nat) (R : Rl) (c : List Int) : Rl := (c.foldl (cStep n) (R, 0#64)).1
def coL (n : Nat) (ord : List (List Int)) : Rl := ord.foldl (cChain n) (Rl.void (n : Int))

theorem cStep_n (n : Nat) (z : Rl × BitVec 64) (v : Int) : (cStep n z v).1.n = z.1.n := by
  unfold cStep; split
  · rfl
  · exact cP_n _ _ _ _
theorem fold_n (n : Nat) : ∀ (c : List Int) (z : Rl × BitVec 64), (c.foldl (cStep n) z).1.n = z.1.n
  | [], z => rfl
  | v :: c, z => by rw [List.foldl_cons, fold_n n c, cStep_n]
theorem chain_n (n : Nat) (R : Rl) (c : List Int) : (cChain n R c).n = R.n := fold_n n c _
theorem coL_n (n : Nat) : ∀ (ord : List (List Int)) (R : Rl), (ord.foldl (cChain n) R).n = R.n
  | [], R => rfl
  | c :: ord, R => by rw [List.foldl_cons, coL_n n ord, chain_n]

/-- All pairs are below n. -/
def Below' (n : Nat) (R : Rl) : Prop := ∀ a b, R.has a b = true → a < n ∧ b < n
theorem cStep_below {n : Nat} (hn : n ≤ 64) {z : Rl × BitVec 64} {v : Int} (h : Below' n z.1) : Below' n (cStep n z v).1 := by
  unfold cStep
  split
  · exact h
  · rename_i hv
    intro a b hb
    have hv' : v.toNat < n := by omega
    rcases Nat.lt_or_ge a 64 with ha | ha
    · have hb : (Rl.row (cP z.1 z.2 v.toNat n) a).getLsbD b = true := hb
      unfold cP at hb
      rw [Rl.row_by, if_pos ha] at hb
      split at hb
      · rename_i h1
        rw [BitVec.getLsbD_or, Bool.or_eq_true] at hb
        rcases hb with hb | hb
        · exact h a b hb
        · rw [one_shl_get _ _ (by omega)] at hb
          simp at hb
          omega
      · exact h a b hb
    · rw [Rl.has, Rl.row_ge _ ha] at hb; simp at hb
theorem fold_below {n : Nat} (hn : n ≤ 64) : ∀ (c : List Int) (z : Rl × BitVec 64), Below' n z.1 → Below' n (c.foldl (cStep n) z).1
  | [], z, h => h
  | v :: c, z, h => by rw [List.foldl_cons]; exact fold_below hn c _ (cStep_below hn h)
theorem coL_below {n : Nat} (hn : n ≤ 64) : ∀ (ord : List (List Int)) (R : Rl), Below' n R → Below' n (ord.foldl (cChain n) R)
  | [], R, h => h
  | c :: ord, R, h => by rw [List.foldl_cons]; exact coL_below hn ord _ (fold_below hn c _ h)
theorem void_below (n : Nat) (m : Int) : Below' n (Rl.void m) := fun a b h => by rw [Rl.has, Rl.row_void] at h; simp at h
theorem rfL_below {n : Nat} (fr : List Int) : Below' n (rfL n fr) := fun a b h => by
  unfold rfL rfP at h
  rw [Rl.has_gen] at h
  simp at h
  omega
end Go.Proofs.YtehimiadpgbhmaaDoor

/-
  Rf, here and in the reference. Own work.
-/
namespace Go.Proofs.YtehimiadpgbhmaaDoor
open Go.AM
set_option maxRecDepth 100000

@[simp] theorem xV_len (x : Xn) : (xV x).length = 5 := rfl
@[simp] theorem intAt_cons (k : IntKind) (n : Int) (l : List Value) : intAt (.int k n :: l) 0 = n := rfl

theorem rfP_n (n : Int) (fr : List Int) (k : Nat) : (rfP n fr k).n = n := by unfold rfP; exact Rl.n_gen _ _

theorem map_add0 (p : Option Addr) : p.map (fun x => x.add 0) = p := by cases p <;> simp [AM.add_zero]

theorem rf_ok (x : Xn) (w : World) (hX : SeesX w x) : Gives Tryd.prog 6 [encX x] w (encRel (rfL (shortL x.ev).length x.from_)) := by
  refine Gives.of_run Tryd.func6 rfl (by show 1 ≤ 45; decide) ?_
  have hone := xV_one hX.one1 hX.one4
  refine RunF_sound tab_ok noX_local 200 [] _ _ rfl ?_ ?_
  · simp
  refine Run.callFn noX_local rfl rfl rfl rfl rfl rfl rfl short_enters rfl (fun w' _ => short_ok x.pe x.ce x.ev w') ?_
  obtain ⟨p', c', e1, _⟩ := short_form x.ce hX.ev
  have hle := shortL_le x.ev
  rw [e1]
  generalize (shortL x.ev).length = n at hle
  have hcap := hX.cap
  have hlf := hX.lf
  have hcells := hX.from_
  refine RunF_sound tab_ok noX_local 200 [] _ _ rfl ?_ ?_
  · simp [fillL, Value.cells, segsVals, relV_tail_one, splice]
    (repeat' refine And.intro ?_ ?_) <;> (try split) <;> omega
  obtain ⟨m, hm⟩ : ∃ m : Nat, m = min n x.from_.length := ⟨_, rfl⟩
  have hm2 : (if (x.from_.length : Int) < (n : Int) then (x.from_.length : Int) else (n : Int)) = (m : Int) := by split <;> omega
  suffices H : ∀ (d k : Nat), k + d = m → ∀ σ, inT σ.t [(2, .ptr 1 0), (3, .ptr 2 0), (19, .v (.slice x.pf m x.cf)), (20, .v (.int .i64 (m : Int))), (21, .v (.int .i64 (k : Int)))] →
      inT σ.h [(1, .cells 32 [.vals 65 (relV (Rl.void 0))]), (2, .cells 32 [.vals 65 (relV (rfP n x.from_ k))])] → Run _ _ σ by
    refine H m 0 (by omega) _ ⟨rfl, rfl, ?_, ?_, rfl, trivial⟩ ⟨rfl, ?_, trivial⟩
    · have e2 : ∀ z : Int, z = (m : Int) → some (AV.v (Value.slice (x.pf.map (fun a => a.add 0)) z.toNat x.cf)) = some (AV.v (Value.slice x.pf m x.cf)) := fun z hz => by rw [hz, map_add0]; rfl
      exact e2 _ hm2
    · have e3 : ∀ z : Int, z = (m : Int) → some (AV.v (Value.int .i64 (z.toNat : Int))) = some (AV.v (Value.int .i64 (m : Int))) := fun z hz => by rw [hz, Int.toNat_natCast]
      exact e3 _ hm2
    · rw [rfP_0]; rfl
  intro d
  induction d with
  | zero =>
    intro k hk σ ht hh
    refine Run.to ?_ ht hh (n' := 3)
    refine RunF_sound tab_ok noX_local 100 [false] _ _ rfl ?_ ?_
    · simp [relV_one', segsVals]; omega
    · refine Run.retP tab_ok Tryd.func6 rfl ?_ (fun M => ?_)
      · simp
      rw [rfL, ← hm, show m = k by omega]; rfl
  | succ d ih =>
    intro k hk σ ht hh
    refine Run.to ?_ ht hh (n' := 3)
    have hkl : k < x.from_.length := by omega
    have hk' : k < 64 := by omega
    obtain ⟨f1, f2⟩ := hcells k hkl
    have hget : x.from_[k]? = some x.from_[k] := List.getElem?_eq_getElem hkl
    generalize x.from_[k] = v at f2 hget
    have hnN : ∀ j, (rfP n x.from_ j).n = (n : Int) := fun j => rfP_n _ _ _
    by_cases c1 : v ≥ 0
    · obtain ⟨u, rfl⟩ := Int.eq_ofNat_of_zero_le c1
      by_cases c2 : (u : Int) < n
      · have hu : u < 64 := by omega
        refine RunF_sound tab_ok noX_local 100 [true, true, true] _ _ rfl ?_ ?_
        · simp only [fnC_w0, fnC_S0, Int.toNat_natCast, Nat.mul_one, f2]
          simp [hnN, c2]
          (repeat' refine And.intro ?_ ?_) <;> first | omega | exact f1
        simp only [fnC_w0, Int.toNat_natCast, Nat.mul_one, f2]
        refine Run.drawA noX_local rfl [] [(2, .cells 32 [.vals 65 (relV (rfP n x.from_ k))])] rfl rfl ⟨rfl, trivial⟩ ?_
        refine RunOF_sound tab_ok noX_local rfl rfl 9 [] _ _ rfl ?_ ?_
        · simp [relV_get _ _ hu, intAt_row _ _ hu]; omega
        refine RunO.effLast tab_ok noX_local rfl rfl rfl rfl ?_ (fun e => by cases e) rfl ?_
        · simp [okCell, Value.oneCell']; omega
        refine RunF_sound tab_ok noX_local 100 [] _ _ rfl ?_ ?_
        · simp
        refine ih (k + 1) (by omega) _ ⟨rfl, rfl, rfl, rfl, i64_eq (wrap_succ (by omega)), trivial⟩ ⟨rfl, congrArg (fun l => some (Blk.cells 32 [.vals 65 l])) ?_, trivial⟩
        have e1 : intAt (relV (rfP n x.from_ k)) (1 + u) = un ((rfP n x.from_ k).row u) := intAt_row _ _ hu
        simp [e1, shl1_un, relV_set _ _ hu, rfP_yes hk' hu c2 hget]
      · refine RunF_sound tab_ok noX_local 100 [true, true, false] _ _ rfl ?_ ?_
        · simp only [fnC_w0, fnC_S0, Int.toNat_natCast, Nat.mul_one, f2]
          simp [hnN]
          (repeat' refine And.intro ?_ ?_) <;> first | omega | exact f1
        refine ih (k + 1) (by omega) _ ⟨rfl, rfl, rfl, rfl, i64_eq (wrap_succ (by omega)), trivial⟩ ⟨rfl, ?_, trivial⟩
        rw [← rfP_no (fun z hz h => by rw [hget] at h; cases h; exact c2 hz)]; rfl
    · refine RunF_sound tab_ok noX_local 100 [true, false] _ _ rfl ?_ ?_
      · simp only [fnC_w0, fnC_S0, Int.toNat_natCast, Nat.mul_one, f2]
        simp
        (repeat' refine And.intro ?_ ?_) <;> first | omega | exact f1
      refine ih (k + 1) (by omega) _ ⟨rfl, rfl, rfl, rfl, i64_eq (wrap_succ (by omega)), trivial⟩ ⟨rfl, ?_, trivial⟩
      rw [← rfP_no (fun z hz h => by rw [hget] at h; cases h; exact c1 (Int.natCast_nonneg _))]; rfl
theorem rf_enters : Enters Tryd.prog 6 := enters_mk Tryd.func6 (by decide) rfl

theorem wrapn (k : Nat) (h : k < 9223372036854775808) : IntKind.u64.wrap (k : Int) = (k : Int) := wrap_u64 (by omega) (by omega)

theorem rfR_ok (x : Xn) (w : World) (hX : SeesX w x) : Gives Tryd.prog 7 [encX x] w (encRel (rfL (shortL x.ev).length x.from_)) := by
  refine Gives.of_run Tryd.func7 rfl (by show 1 ≤ 59; decide) ?_
  have hone := xV_one hX.one1 hX.one4
  refine RunF_sound tab_ok noX_local 200 [] _ _ rfl ?_ ?_
  · simp
  refine Run.callFn noX_local rfl rfl rfl rfl rfl rfl rfl shortR_enters rfl (fun w' _ => shortR_ok x.pe x.ce x.ev w') ?_
  obtain ⟨p', c', e1, _⟩ := short_form x.ce hX.ev
  have hle := shortL_le x.ev
  rw [e1]
  generalize (shortL x.ev).length = n at hle
  have hlf := hX.lf
  have hcells := hX.from_
  refine RunF_sound tab_ok noX_local 200 [] _ _ rfl ?_ ?_
  · simp [fillL, Value.cells, segsVals, relV_tail_one, splice]
    try rfl
  obtain ⟨m, hm⟩ : ∃ m : Nat, m = min n x.from_.length := ⟨_, rfl⟩
  suffices H : ∀ (d k : Nat), k + d = m → ∀ σ, inT σ.t [(1, .ptr 0 0), (2, .ptr 1 0), (3, .v (.int .i64 (n : Int))), (4, .ptr 2 0), (5, .v (.int .i64 (k : Int)))] →
      inT σ.h [(0, .cells 28 [.vals 5 (xV x)]), (1, .cells 32 [.vals 65 (relV (Rl.void 0))]), (2, .cells 32 [.vals 65 (relV (rfP n x.from_ k))])] → Run _ _ σ by
    refine H m 0 (by omega) _ ⟨rfl, rfl, rfl, rfl, rfl, trivial⟩ ⟨rfl, rfl, ?_, trivial⟩
    rw [rfP_0]; rfl
  intro d
  induction d with
  | zero =>
    intro k hk σ ht hh
    refine Run.to ?_ ht hh (n' := 3)
    have hkm : k = m := by omega
    by_cases c : k < n
    · have c2 : ¬ k < x.from_.length := by omega
      refine RunF_sound tab_ok noX_local 100 [true, false] _ _ rfl ?_ ?_
      · simp [relV_one', segsVals]; omega
      refine Run.retP tab_ok Tryd.func7 rfl ?_ (fun M => ?_)
      · simp
      rw [rfL, ← hm, ← hkm]; rfl
    · refine RunF_sound tab_ok noX_local 100 [false] _ _ rfl ?_ ?_
      · simp [relV_one', segsVals]; omega
      refine Run.retP tab_ok Tryd.func7 rfl ?_ (fun M => ?_)
      · simp
      rw [rfL, ← hm, ← hkm]; rfl
  | succ d ih =>
    intro k hk σ ht hh
    refine Run.to ?_ ht hh (n' := 3)
    have hkl : k < x.from_.length := by omega
    have hkn : k < n := by omega
    have hk' : k < 64 := by omega
    obtain ⟨f1, f2⟩ := hcells k hkl
    have hget : x.from_[k]? = some x.from_[k] := List.getElem?_eq_getElem hkl
    generalize x.from_[k] = v at f2 hget
    by_cases c1 : v ≥ 0
    · obtain ⟨u, rfl⟩ := Int.eq_ofNat_of_zero_le c1
      by_cases c2 : (u : Int) < n
      · have hu : u < 64 := by omega
        refine RunF_sound tab_ok noX_local 200 [true, true, true, true] _ _ rfl ?_ ?_
        · simp only [fnC_w0, fnC_S0, Int.toNat_natCast, Nat.mul_one]
          simp [f2, c2]
          (repeat' refine And.intro ?_ ?_) <;> first | omega | exact f1
        refine Run.drawA noX_local rfl [] [(0, .cells 28 [.vals 5 (xV x)]), (2, .cells 32 [.vals 65 (relV (rfP n x.from_ k))])] rfl rfl ⟨rfl, rfl, trivial⟩ ?_
        have e1 : intAt (relV (rfP n x.from_ k)) (1 + u) = un ((rfP n x.from_ k).row u) := intAt_row _ _ hu
        refine RunOF_sound tab_ok noX_local rfl rfl 19 [] _ _ rfl ?_ ?_
        · simp only [fnC_w0, fnC_S0, Int.toNat_natCast, Nat.mul_one]
          simp [f2, relV_get _ _ hu, intAt_row _ _ hu, wrapn k (by omega)]
          (repeat' refine And.intro ?_ ?_) <;> first | omega | exact f1
        refine RunO.effLast tab_ok noX_local rfl rfl rfl rfl ?_ (fun e => by cases e) rfl ?_
        · simp only [fnC_w0, Int.toNat_natCast, Nat.mul_one]
          simp [okCell, Value.oneCell', f2]; omega
        refine RunF_sound tab_ok noX_local 100 [] _ _ rfl ?_ ?_
        · simp
        refine ih (k + 1) (by omega) _ ⟨rfl, rfl, rfl, rfl, i64_eq (wrap_succ (by omega)), trivial⟩ ⟨rfl, rfl, congrArg (fun l => some (Blk.cells 32 [.vals 65 l])) ?_, trivial⟩
        simp [f2, e1, wrapn k (by omega), shl1_un, relV_set _ _ hu, rfP_yes hk' hu c2 hget]
      · refine RunF_sound tab_ok noX_local 200 [true, true, true, false] _ _ rfl ?_ ?_
        · simp only [fnC_w0, fnC_S0, Int.toNat_natCast, Nat.mul_one]
          simp [f2]
          (repeat' refine And.intro ?_ ?_) <;> first | omega | exact f1
        refine ih (k + 1) (by omega) _ ⟨rfl, rfl, rfl, rfl, i64_eq (wrap_succ (by omega)), trivial⟩ ⟨rfl, rfl, ?_, trivial⟩
        rw [← rfP_no (fun z hz h => by rw [hget] at h; cases h; exact c2 hz)]; rfl
    · refine RunF_sound tab_ok noX_local 200 [true, true, false] _ _ rfl ?_ ?_
      · simp only [fnC_w0, fnC_S0, Int.toNat_natCast, Nat.mul_one]
        simp [f2]
        (repeat' refine And.intro ?_ ?_) <;> first | omega | exact f1
      refine ih (k + 1) (by omega) _ ⟨rfl, rfl, rfl, rfl, i64_eq (wrap_succ (by omega)), trivial⟩ ⟨rfl, rfl, ?_, trivial⟩
      rw [← rfP_no (fun z hz h => by rw [hget] at h; cases h; exact c1 (Int.natCast_nonneg _))]; rfl
theorem rfR_enters : Enters Tryd.prog 7 := enters_mk Tryd.func7 (by decide) rfl
end Go.Proofs.YtehimiadpgbhmaaDoor

/-
  Co, here and in the reference. Own work.
-/
namespace Go.Proofs.YtehimiadpgbhmaaDoor
open Go.AM
set_option maxRecDepth 100000

theorem bit_eq (x : BitVec 64) (b : Int) : (band .u64 (shrI .u64 (un x) b) 1 == 1) = x.getLsbD b.toNat := by
  rw [shr_un, band1_un, Bool.eq_iff_iff, beq_iff_eq, un_eq1, bit_iff]
theorem bit1 (x : BitVec 64) (i : Nat) : (band .u64 (un (x >>> i)) 1 = 1) ↔ x.getLsbD i = true := by
  have h := bit_eq x (i : Int)
  rw [shr_un, Int.toNat_natCast, Bool.eq_iff_iff, beq_iff_eq] at h
  exact h

theorem slOf_of {o : Option Value} {p : Option Addr} {n c : Nat} (h : o = some (.slice p n c)) : slOf o = (p, n, c) := by rw [h]; rfl

theorem co_ok (x : Xn) (w : World) (hX : SeesX w x) : Gives Tryd.prog 8 [encX x] w (encRel (coL (shortL x.ev).length x.ord)) := by
  refine Gives.of_run Tryd.func8 rfl (by show 1 ≤ 63; decide) ?_
  have hone := xV_one hX.one1 hX.one4
  refine RunF_sound tab_ok noX_local 200 [] _ _ rfl ?_ ?_
  · simp
  refine Run.callFn noX_local rfl rfl rfl rfl rfl rfl rfl short_enters rfl (fun w' _ => short_ok x.pe x.ce x.ev w') ?_
  obtain ⟨p', c', e1, _⟩ := short_form x.ce hX.ev
  have hle := shortL_le x.ev
  rw [e1]
  generalize (shortL x.ev).length = n at hle
  have hlo := hX.lo
  have hlo2 := hX.lo2
  have hcells := hX.ord
  refine RunF_sound tab_ok noX_local 200 [] _ _ rfl ?_ ?_
  · simp [fillL, Value.cells, segsVals, relV_tail_one, splice]
    try rfl
  obtain ⟨Z, hZ⟩ : ∃ Z, Z = coL n x.ord := ⟨_, rfl⟩
  rw [← hZ]
  suffices H : ∀ (d i : Nat) (R : Rl), i + d = x.ord.length → R.n = (n : Int) → Z = (x.ord.drop i).foldl (cChain n) R → ∀ σ, inT σ.t [(2, .ptr 1 0), (3, .ptr 2 0), (16, .v (.slice x.po x.ord.length x.co)), (17, .v (.int .i64 (x.ord.length : Int))), (18, .v (.int .i64 (i : Int)))] →
      inT σ.h [(1, .cells 32 [.vals 65 (relV (Rl.void 0))]), (2, .cells 32 [.vals 65 (relV R)])] → Run _ _ σ by
    exact H x.ord.length 0 (Rl.void (n : Int)) (by omega) rfl (by rw [List.drop_zero]; exact hZ) _ ⟨rfl, rfl, rfl, rfl, rfl, trivial⟩ ⟨rfl, rfl, trivial⟩
  clear hZ
  intro d
  induction d with
  | zero =>
    intro i R hi hR hv σ ht hh
    refine Run.to ?_ ht hh (n' := 3)
    refine RunF_sound tab_ok noX_local 100 [false] _ _ rfl ?_ ?_
    · simp [relV_one', segsVals]; omega
    refine Run.retP tab_ok Tryd.func8 rfl ?_ (fun M => ?_)
    · simp
    rw [List.drop_eq_nil_of_le (by omega)] at hv
    rw [hv]; rfl
  | succ d ih =>
    intro i R hi hR hv σ ht hh
    refine Run.to ?_ ht hh (n' := 3)
    have hil : i < x.ord.length := by omega
    rw [List.drop_eq_getElem_cons hil, List.foldl_cons] at hv
    obtain ⟨f1, q, cq, f2, hin⟩ := hcells i hil
    have hcl := hlo2 x.ord[i] (List.getElem_mem hil)
    generalize x.ord[i] = C at *
    have f3 := slOf_of f2
    simp only [maxLen] at hcl hlo
    refine RunF_sound tab_ok noX_local 200 [true] _ _ rfl ?_ ?_
    · simp only [fnC_w0, fnC_S0, Int.toNat_natCast, Nat.mul_one, f2]
      simp
      (repeat' refine And.intro ?_ ?_) <;> first | omega | exact f1
    suffices H2 : ∀ (e j : Nat) (R : Rl) (s : BitVec 64), j + e = C.length → R.n = (n : Int) → Z = (x.ord.drop (i + 1)).foldl (cChain n) ((C.drop j).foldl (cStep n) (R, s)).1 → ∀ σ, inT σ.t [(2, .ptr 1 0), (3, .ptr 2 0), (16, .v (.slice x.po x.ord.length x.co)), (17, .v (.int .i64 (x.ord.length : Int))), (18, .v (.int .i64 (i : Int))), (6, .v (.int .u64 (un s))), (22, .v (.slice q C.length cq)), (23, .v (.int .i64 (C.length : Int))), (24, .v (.int .i64 (j : Int)))] →
        inT σ.h [(1, .cells 32 [.vals 65 (relV (Rl.void 0))]), (2, .cells 32 [.vals 65 (relV R)])] → Run _ _ σ by
      refine H2 C.length 0 R 0#64 (by omega) hR (by rw [List.drop_zero]; exact hv) _ ⟨rfl, rfl, rfl, rfl, rfl, rfl, ?_, ?_, rfl, trivial⟩ ⟨rfl, rfl, trivial⟩
      · simp only [fnC_w0, Int.toNat_natCast, Nat.mul_one, f3]; rfl
      · simp only [fnC_w0, Int.toNat_natCast, Nat.mul_one, f3]; rfl
    clear hv
    intro e
    induction e with
    | zero =>
      intro j R s hj hR hv σ ht hh
      refine Run.to ?_ ht hh (n' := 3)
      refine RunF_sound tab_ok noX_local 100 [false] _ _ rfl ?_ ?_
      · simp; omega
      rw [List.drop_eq_nil_of_le (by omega)] at hv
      exact ih (i + 1) R (by omega) hR hv _ ⟨rfl, rfl, rfl, rfl, i64_eq (wrap_succ (by omega)), trivial⟩ ⟨rfl, rfl, trivial⟩
    | succ e ihe =>
      intro j R s hj hR hv σ ht hh
      refine Run.to ?_ ht hh (n' := 3)
      have hjl : j < C.length := by omega
      rw [List.drop_eq_getElem_cons hjl, List.foldl_cons] at hv
      obtain ⟨g1, g2⟩ := hin j hjl
      generalize C[j] = v at *
      have hnR : intAt (relV R) 0 = (n : Int) := hR
      by_cases c1 : v < 0
      · rw [show cStep n (R, s) v = (R, s) by unfold cStep; rw [if_pos (.inl c1)]] at hv
        refine RunF_sound tab_ok noX_local 200 [true, true, true] _ _ rfl ?_ ?_
        · simp only [fnC_w0, fnC_S0, Int.toNat_natCast, Nat.mul_one, g2]
          simp [c1]
          (repeat' refine And.intro ?_ ?_) <;> first | omega | exact g1
        exact ihe (j + 1) R s (by omega) hR hv _ ⟨rfl, rfl, rfl, rfl, rfl, rfl, rfl, rfl, i64_eq (wrap_succ (by omega)), trivial⟩ ⟨rfl, rfl, trivial⟩
      by_cases c2 : v ≥ (n : Int)
      · rw [show cStep n (R, s) v = (R, s) by unfold cStep; rw [if_pos (.inr c2)]] at hv
        refine RunF_sound tab_ok noX_local 200 [true, false, true] _ _ rfl ?_ ?_
        · simp only [fnC_w0, fnC_S0, Int.toNat_natCast, Nat.mul_one, g2]
          simp [hR]
          (repeat' refine And.intro ?_ ?_) <;> first | omega | exact g1
        exact ihe (j + 1) R s (by omega) hR hv _ ⟨rfl, rfl, rfl, rfl, rfl, rfl, rfl, rfl, i64_eq (wrap_succ (by omega)), trivial⟩ ⟨rfl, rfl, trivial⟩
      obtain ⟨b, rfl⟩ : ∃ b : Nat, v = (b : Int) := ⟨v.toNat, by omega⟩
      rw [show cStep n (R, s) (b : Int) = (cP R s b n, s ||| 1#64 <<< b) by unfold cStep; rw [if_neg (by omega), Int.toNat_natCast]] at hv
      have hb : b < 64 := by omega
      refine RunF_sound tab_ok noX_local 200 [true, false, false] _ _ rfl ?_ ?_
      · simp only [fnC_w0, fnC_S0, Int.toNat_natCast, Nat.mul_one, g2]
        simp [hR]
        (repeat' refine And.intro ?_ ?_) <;> first | omega | exact g1
      suffices H3 : ∀ (y a : Nat), a + y = n → ∀ σ, inT σ.t [(2, .ptr 1 0), (3, .ptr 2 0), (16, .v (.slice x.po x.ord.length x.co)), (17, .v (.int .i64 (x.ord.length : Int))), (18, .v (.int .i64 (i : Int))), (6, .v (.int .u64 (un s))), (22, .v (.slice q C.length cq)), (23, .v (.int .i64 (C.length : Int))), (24, .v (.int .i64 (j : Int))), (8, .v (.int .i64 (b : Int))), (37, .v (.int .i64 (n : Int))), (38, .v (.int .i64 (a : Int)))] →
          inT σ.h [(1, .cells 32 [.vals 65 (relV (Rl.void 0))]), (2, .cells 32 [.vals 65 (relV (cP R s b a))])] → Run _ _ σ by
        refine H3 n 0 (by omega) _ ⟨rfl, rfl, rfl, rfl, rfl, rfl, rfl, rfl, rfl, ?_, i64_eq hnR, rfl, trivial⟩ ⟨rfl, ?_, trivial⟩
        · simp only [fnC_w0, Int.toNat_natCast, Nat.mul_one, g2]; rfl
        · rw [cP_0]; rfl
      intro y
      induction y with
      | zero =>
        intro a ha σ ht hh
        refine Run.to ?_ ht hh (n' := 3)
        refine RunF_sound tab_ok noX_local 200 [false] _ _ rfl ?_ ?_
        · simp; omega
        refine ihe (j + 1) (cP R s b n) (s ||| 1#64 <<< b) (by omega) ((cP_n _ _ _ _).trans hR) hv _ ⟨rfl, rfl, rfl, rfl, rfl, ?_, rfl, rfl, i64_eq (wrap_succ (by omega)), trivial⟩ ⟨rfl, ?_, trivial⟩
        · refine u64_eq ?_
          rw [shl1_un, bor_un, Int.toNat_natCast]
        · rw [show n = a by omega]; rfl
      | succ y ihy =>
        intro a ha σ ht hh
        refine Run.to ?_ ht hh (n' := 3)
        have ha' : a < 64 := by omega
        have hbit := bit1 s a
        by_cases c : s.getLsbD a = true
        · refine RunF_sound tab_ok noX_local 200 [true, true] _ _ rfl ?_ ?_
          · simp [hbit, c]; omega
          refine Run.drawA noX_local rfl [] [(2, .cells 32 [.vals 65 (relV (cP R s b a))])] rfl rfl ⟨rfl, trivial⟩ ?_
          refine RunOF_sound tab_ok noX_local rfl rfl 9 [] _ _ rfl ?_ ?_
          · simp [relV_get _ _ ha', intAt_row _ _ ha']; omega
          refine RunO.effLast tab_ok noX_local rfl rfl rfl rfl ?_ (fun e => by cases e) rfl ?_
          · simp [okCell, Value.oneCell']; omega
          refine RunF_sound tab_ok noX_local 100 [] _ _ rfl ?_ ?_
          · simp
          refine ihy (a + 1) (by omega) _ ⟨rfl, rfl, rfl, rfl, rfl, rfl, rfl, rfl, rfl, rfl, rfl, i64_eq (wrap_succ (by omega)), trivial⟩ ⟨rfl, congrArg (fun l => some (Blk.cells 32 [.vals 65 l])) ?_, trivial⟩
          have e1 : intAt (relV (cP R s b a)) (1 + a) = un ((cP R s b a).row a) := intAt_row _ _ ha'
          simp [e1, shl1_un, relV_set _ _ ha', cP_yes ha' c]
        · refine RunF_sound tab_ok noX_local 200 [true, false] _ _ rfl ?_ ?_
          · simp [hbit, c]; omega
          refine ihy (a + 1) (by omega) _ ⟨rfl, rfl, rfl, rfl, rfl, rfl, rfl, rfl, rfl, rfl, rfl, i64_eq (wrap_succ (by omega)), trivial⟩ ⟨rfl, ?_, trivial⟩
          rw [← cP_no (by simpa using c)]; rfl
theorem co_enters : Enters Tryd.prog 8 := enters_mk Tryd.func8 (by decide) rfl

theorem coR_ok (x : Xn) (w : World) (hX : SeesX w x) : Gives Tryd.prog 9 [encX x] w (encRel (coL (shortL x.ev).length x.ord)) := by
  refine Gives.of_run Tryd.func9 rfl (by show 1 ≤ 76; decide) ?_
  have hone := xV_one hX.one1 hX.one4
  refine RunF_sound tab_ok noX_local 200 [] _ _ rfl ?_ ?_
  · simp
  refine Run.callFn noX_local rfl rfl rfl rfl rfl rfl rfl shortR_enters rfl (fun w' _ => shortR_ok x.pe x.ce x.ev w') ?_
  obtain ⟨p', c', e1, _⟩ := short_form x.ce hX.ev
  have hle := shortL_le x.ev
  rw [e1]
  generalize (shortL x.ev).length = n at hle
  have hlo := hX.lo
  have hlo2 := hX.lo2
  have hcells := hX.ord
  refine RunF_sound tab_ok noX_local 200 [] _ _ rfl ?_ ?_
  · simp [fillL, Value.cells, segsVals, relV_tail_one, splice]
    try rfl
  obtain ⟨Z, hZ⟩ : ∃ Z, Z = coL n x.ord := ⟨_, rfl⟩
  rw [← hZ]
  suffices H : ∀ (d i : Nat) (R : Rl), i + d = x.ord.length → R.n = (n : Int) → Z = (x.ord.drop i).foldl (cChain n) R → ∀ σ, inT σ.t [(1, .ptr 0 0), (2, .ptr 1 0), (3, .v (.int .i64 (n : Int))), (4, .ptr 2 0), (5, .v (.int .i64 (i : Int)))] →
      inT σ.h [(0, .cells 28 [.vals 5 (xV x)]), (1, .cells 32 [.vals 65 (relV (Rl.void 0))]), (2, .cells 32 [.vals 65 (relV R)])] → Run _ _ σ by
    exact H x.ord.length 0 (Rl.void (n : Int)) (by omega) rfl (by rw [List.drop_zero]; exact hZ) _ ⟨rfl, rfl, rfl, rfl, rfl, trivial⟩ ⟨rfl, rfl, rfl, trivial⟩
  clear hZ
  intro d
  induction d with
  | zero =>
    intro i R hi hR hv σ ht hh
    refine Run.to ?_ ht hh (n' := 3)
    refine RunF_sound tab_ok noX_local 100 [false] _ _ rfl ?_ ?_
    · simp [relV_one', segsVals]; omega
    refine Run.retP tab_ok Tryd.func9 rfl ?_ (fun M => ?_)
    · simp
    rw [List.drop_eq_nil_of_le (by omega)] at hv
    rw [hv]; rfl
  | succ d ih =>
    intro i R hi hR hv σ ht hh
    refine Run.to ?_ ht hh (n' := 3)
    have hil : i < x.ord.length := by omega
    rw [List.drop_eq_getElem_cons hil, List.foldl_cons] at hv
    obtain ⟨f1, q, cq, f2, hin⟩ := hcells i hil
    have hcl := hlo2 x.ord[i] (List.getElem_mem hil)
    generalize x.ord[i] = C at *
    simp only [maxLen] at hcl hlo
    refine RunF_sound tab_ok noX_local 200 [true] _ _ rfl ?_ ?_
    · simp; omega
    suffices H2 : ∀ (e j : Nat) (R : Rl) (s : BitVec 64), j + e = C.length → R.n = (n : Int) → Z = (x.ord.drop (i + 1)).foldl (cChain n) ((C.drop j).foldl (cStep n) (R, s)).1 → ∀ σ, inT σ.t [(1, .ptr 0 0), (2, .ptr 1 0), (3, .v (.int .i64 (n : Int))), (4, .ptr 2 0), (5, .v (.int .i64 (i : Int))), (6, .v (.int .u64 (un s))), (7, .v (.int .i64 (j : Int)))] →
        inT σ.h [(0, .cells 28 [.vals 5 (xV x)]), (1, .cells 32 [.vals 65 (relV (Rl.void 0))]), (2, .cells 32 [.vals 65 (relV R)])] → Run _ _ σ by
      exact H2 C.length 0 R 0#64 (by omega) hR (by rw [List.drop_zero]; exact hv) _ ⟨rfl, rfl, rfl, rfl, rfl, rfl, rfl, trivial⟩ ⟨rfl, rfl, rfl, trivial⟩
    clear hv
    intro e
    induction e with
    | zero =>
      intro j R s hj hR hv σ ht hh
      refine Run.to ?_ ht hh (n' := 3)
      refine RunF_sound tab_ok noX_local 200 [false] _ _ rfl ?_ ?_
      · simp only [fnC_w0, fnC_S0, Int.toNat_natCast, Nat.mul_one]
        simp [f2]
        (repeat' refine And.intro ?_ ?_) <;> first | omega | exact f1
      rw [List.drop_eq_nil_of_le (by omega)] at hv
      exact ih (i + 1) R (by omega) hR hv _ ⟨rfl, rfl, rfl, rfl, i64_eq (wrap_succ (by omega)), trivial⟩ ⟨rfl, rfl, rfl, trivial⟩
    | succ e ihe =>
      intro j R s hj hR hv σ ht hh
      refine Run.to ?_ ht hh (n' := 3)
      have hjl : j < C.length := by omega
      rw [List.drop_eq_getElem_cons hjl, List.foldl_cons] at hv
      obtain ⟨g1, g2⟩ := hin j hjl
      generalize C[j] = v at *
      by_cases c1 : v < 0
      · rw [show cStep n (R, s) v = (R, s) by unfold cStep; rw [if_pos (.inl c1)]] at hv
        refine RunF_sound tab_ok noX_local 200 [true, true, true] _ _ rfl ?_ ?_
        · simp only [fnC_w0, fnC_S0, Int.toNat_natCast, Nat.mul_one]
          simp [f2, g2, c1]
          (repeat' refine And.intro ?_ ?_) <;> first | omega | exact f1 | exact g1
        exact ihe (j + 1) R s (by omega) hR hv _ ⟨rfl, rfl, rfl, rfl, rfl, rfl, i64_eq (wrap_succ (by omega)), trivial⟩ ⟨rfl, rfl, rfl, trivial⟩
      by_cases c2 : v ≥ (n : Int)
      · rw [show cStep n (R, s) v = (R, s) by unfold cStep; rw [if_pos (.inr c2)]] at hv
        refine RunF_sound tab_ok noX_local 200 [true, false, true] _ _ rfl ?_ ?_
        · simp only [fnC_w0, fnC_S0, Int.toNat_natCast, Nat.mul_one]
          simp [f2, g2]
          (repeat' refine And.intro ?_ ?_) <;> first | omega | exact f1 | exact g1
        exact ihe (j + 1) R s (by omega) hR hv _ ⟨rfl, rfl, rfl, rfl, rfl, rfl, i64_eq (wrap_succ (by omega)), trivial⟩ ⟨rfl, rfl, rfl, trivial⟩
      obtain ⟨b, rfl⟩ : ∃ b : Nat, v = (b : Int) := ⟨v.toNat, by omega⟩
      rw [show cStep n (R, s) (b : Int) = (cP R s b n, s ||| 1#64 <<< b) by unfold cStep; rw [if_neg (by omega), Int.toNat_natCast]] at hv
      have hb : b < 64 := by omega
      refine RunF_sound tab_ok noX_local 200 [true, false, false] _ _ rfl ?_ ?_
      · simp only [fnC_w0, fnC_S0, Int.toNat_natCast, Nat.mul_one]
        simp [f2, g2]
        (repeat' refine And.intro ?_ ?_) <;> first | omega | exact f1 | exact g1
      suffices H3 : ∀ (y a : Nat), a + y = n → ∀ σ, inT σ.t [(1, .ptr 0 0), (2, .ptr 1 0), (3, .v (.int .i64 (n : Int))), (4, .ptr 2 0), (5, .v (.int .i64 (i : Int))), (6, .v (.int .u64 (un s))), (7, .v (.int .i64 (j : Int))), (8, .v (.int .i64 (b : Int))), (9, .v (.int .i64 (a : Int)))] →
          inT σ.h [(0, .cells 28 [.vals 5 (xV x)]), (1, .cells 32 [.vals 65 (relV (Rl.void 0))]), (2, .cells 32 [.vals 65 (relV (cP R s b a))])] → Run _ _ σ by
        refine H3 n 0 (by omega) _ ⟨rfl, rfl, rfl, rfl, rfl, rfl, rfl, ?_, rfl, trivial⟩ ⟨rfl, rfl, ?_, trivial⟩
        · simp only [fnC_w0, Int.toNat_natCast, Nat.mul_one]
          have h8 : ∀ z : Option Addr × Nat × Nat, z = (q, C.length, cq) → w.cell? ((z.1.getD default).add j) = some (.int .i64 (b : Int)) := fun z hz => by rw [hz]; exact g2
          have h9 := h8 (slOf (w.cell? ((x.po.getD default).add i))) (slOf_of f2)
          have h10 : ∀ o : Option Value, o = some (.int .i64 (b : Int)) → some (AV.v (.int .i64 (match o with | some (.int _ m) => m | _ => 0))) = some (AV.v (.int .i64 (b : Int))) := fun o ho => by rw [ho]
          exact h10 _ h9
        · rw [cP_0]; rfl
      intro y
      induction y with
      | zero =>
        intro a ha σ ht hh
        refine Run.to ?_ ht hh (n' := 3)
        refine RunF_sound tab_ok noX_local 200 [false] _ _ rfl ?_ ?_
        · simp [wrapn b (by omega)]; omega
        refine ihe (j + 1) (cP R s b n) (s ||| 1#64 <<< b) (by omega) ((cP_n _ _ _ _).trans hR) hv _ ⟨rfl, rfl, rfl, rfl, rfl, ?_, i64_eq (wrap_succ (by omega)), trivial⟩ ⟨rfl, rfl, ?_, trivial⟩
        · refine u64_eq ?_
          rw [wrapn b (by omega), shl1_un, bor_un, Int.toNat_natCast]
        · rw [show n = a by omega]; rfl
      | succ y ihy =>
        intro a ha σ ht hh
        refine Run.to ?_ ht hh (n' := 3)
        have ha' : a < 64 := by omega
        have hbit := bit1 s a
        by_cases c : s.getLsbD a = true
        · refine RunF_sound tab_ok noX_local 200 [true, true] _ _ rfl ?_ ?_
          · simp [wrapn a (by omega), wrapn b (by omega), hbit, c, relV_get _ _ ha', intAt_row _ _ ha', okCell, Value.oneCell']; omega
          refine ihy (a + 1) (by omega) _ ⟨rfl, rfl, rfl, rfl, rfl, rfl, rfl, rfl, i64_eq (wrap_succ (by omega)), trivial⟩ ⟨rfl, rfl, congrArg (fun l => some (Blk.cells 32 [.vals 65 l])) ?_, trivial⟩
          have e1 : intAt (relV (cP R s b a)) (1 + a) = un ((cP R s b a).row a) := intAt_row _ _ ha'
          simp [e1, wrapn b (by omega), shl1_un, relV_set _ _ ha', cP_yes ha' c]
        · refine RunF_sound tab_ok noX_local 200 [true, false] _ _ rfl ?_ ?_
          · simp [wrapn a (by omega), hbit, c]; omega
          refine ihy (a + 1) (by omega) _ ⟨rfl, rfl, rfl, rfl, rfl, rfl, rfl, rfl, i64_eq (wrap_succ (by omega)), trivial⟩ ⟨rfl, rfl, ?_, trivial⟩
          rw [← cP_no (by simpa using c)]; rfl
theorem coR_enters : Enters Tryd.prog 9 := enters_mk Tryd.func9 (by decide) rfl
end Go.Proofs.YtehimiadpgbhmaaDoor

/-
  Fr: plain laws. Own work.
-/
namespace Go.Proofs.YtehimiadpgbhmaaDoor
open Go.AM
set_option maxRecDepth 100000

theorem right_below {n : Nat} (hn : n ≤ 64) {R : Rl} (hR : R.n = (n : Int)) (h : Below' n R) : rightL R = R := by
  refine rightL_of _ ?_
  unfold checkI
  have hg : ∀ i, i < 64 → good R i = true := fun i hi => (good_iff R i (by omega)).2 fun b hb ⟨h1, h2⟩ => by have := h i b h1; omega
  rw [if_neg (by omega), if_pos hg]

open Classical in
/-- The pairs of from-reads that are found by row i, column j. -/
noncomputable def frP (n : Nat) (F O : Rl) (i j : Nat) : Rl := Rl.gen (n : Int) fun a b => decide (∃ z, (z < i ∨ (z = i ∧ a < j)) ∧ F.has z a = true ∧ O.has z b = true ∧ a ≠ b)
noncomputable def frL (n : Nat) (F O : Rl) : Rl := frP n F O n 0
theorem frP_n (n : Nat) (F O : Rl) (i j : Nat) : (frP n F O i j).n = (n : Int) := by unfold frP; exact Rl.n_gen _ _
theorem frP_has {n : Nat} {F O : Rl} {i j a b : Nat} (ha : a < 64) (hb : b < 64) : (frP n F O i j).has a b = true ↔ ∃ z, (z < i ∨ (z = i ∧ a < j)) ∧ F.has z a = true ∧ O.has z b = true ∧ a ≠ b := by
  unfold frP; rw [Rl.has_gen]; simp [ha, hb]
theorem frP_0 (n : Nat) (F O : Rl) : frP n F O 0 0 = Rl.void (n : Int) := by
  apply Rl.ext_has
  · rw [frP_n]; rfl
  · intro a b ha hb
    rw [Bool.eq_iff_iff, frP_has ha hb, Rl.has, Rl.row_void]
    simp
theorem frP_yes {n : Nat} {F O : Rl} {i j : Nat} (hj : j < 64) (h : F.has i j = true) : (frP n F O i j).setRow j ((frP n F O i j).row j ||| (O.row i &&& ~~~(1#64 <<< j))) = frP n F O i (j + 1) := by
  apply Rl.ext_has
  · rw [Rl.n_setRow, frP_n, frP_n]
  · intro a b ha hb
    rw [Bool.eq_iff_iff, frP_has ha hb, Rl.has_setRow]
    by_cases e : j = a
    · subst e
      rw [if_pos ⟨rfl, hj⟩, BitVec.getLsbD_or, Bool.or_eq_true, BitVec.getLsbD_and, Bool.and_eq_true, BitVec.getLsbD_not, one_shl_get _ _ hj]
      have e1 : ((frP n F O i j).row j).getLsbD b = (frP n F O i j).has j b := rfl
      have e2 : (O.row i).getLsbD b = O.has i b := rfl
      rw [e1, e2, frP_has ha hb]
      constructor
      · rintro (⟨z, h1, h2⟩ | ⟨h1, h2⟩)
        · exact ⟨z, by omega, h2⟩
        · refine ⟨i, .inr ⟨rfl, by omega⟩, h, h1, ?_⟩
          simp at h2; omega
      · rintro ⟨z, h1, h2, h3, h4⟩
        by_cases hz : z = i
        · subst hz
          right
          refine ⟨h3, ?_⟩
          simp [hb]; omega
        · left
          exact ⟨z, by omega, h2, h3, h4⟩
    · rw [if_neg (by omega)]
      rw [frP_has ha hb]
      constructor
      · rintro ⟨z, h1, h2⟩; exact ⟨z, by omega, h2⟩
      · rintro ⟨z, h1, h2⟩; exact ⟨z, by omega, h2⟩
theorem frP_no {n : Nat} {F O : Rl} {i j : Nat} (h : F.has i j = false) : frP n F O i j = frP n F O i (j + 1) := by
  apply Rl.ext_has
  · rw [frP_n, frP_n]
  · intro a b ha hb
    rw [Bool.eq_iff_iff, frP_has ha hb, frP_has ha hb]
    constructor
    · rintro ⟨z, h1, h2⟩; exact ⟨z, by omega, h2⟩
    · rintro ⟨z, h1, h2, h3⟩
      by_cases hz : z = i ∧ a = j
      · rw [hz.1, hz.2, h] at h2; cases h2
      · exact ⟨z, by omega, h2, h3⟩
theorem frP_row {n : Nat} {F O : Rl} {i : Nat} (hF : Below' n F) : frP n F O i n = frP n F O (i + 1) 0 := by
  apply Rl.ext_has
  · rw [frP_n, frP_n]
  · intro a b ha hb
    rw [Bool.eq_iff_iff, frP_has ha hb, frP_has ha hb]
    constructor
    · rintro ⟨z, h1, h2⟩; exact ⟨z, by omega, h2⟩
    · rintro ⟨z, h1, h2, h3⟩
      have := hF z a h2
      exact ⟨z, by omega, h2, h3⟩

theorem onL_has {n : Nat} (hn : n ≤ 64) (a b : Nat) (ha : a < 64) (hb : b < 64) : (onL (n : Int) 18446744073709551615#64).has a b = true ↔ a < n ∧ a = b := by
  unfold onL
  rw [if_neg (by omega), Rl.has, Rl.row_by, if_pos ha]
  have h1 : (18446744073709551615#64).getLsbD a = true := by
    rw [show (18446744073709551615#64) = BitVec.allOnes 64 from by decide, BitVec.getLsbD_allOnes, decide_eq_true ha]
  rw [h1]
  by_cases c : (a : Int) < n
  · rw [if_pos ⟨c, rfl⟩, one_shl_get _ _ ha]
    simp; omega
  · rw [if_neg (by omega), BitVec.getLsbD_zero]
    simp; omega
theorem onL_below {n : Nat} (hn : n ≤ 64) : Below' n (onL (n : Int) 18446744073709551615#64) := fun a b h => by
  have h2 := Rl.has_lt _ h
  have := (onL_has hn a b h2.1 h2.2).1 h
  omega

/-- What the code says is what is found. -/
theorem fr_eq {n : Nat} (hn : n ≤ 64) {F O : Rl} (hF : F.n = (n : Int)) (hFb : Below' n F) (hO : O.n = (n : Int)) (hOb : Below' n O) :
    opL (fun a b => a &&& ~~~b) (composeL (invF (rightL F).n (edgesL (rightL F))) O) (onL F.n 18446744073709551615#64) = frL n F O := by
  have hFr := right_below hn hF hFb
  have hOr := right_below hn hO hOb
  have hIh := inverse_has F
  have hIn : (invF (rightL F).n (edgesL (rightL F))).n = (n : Int) := by rw [invF_n, hFr, hF]
  rw [hFr] at hIh hIn ⊢
  generalize invF F.n (edgesL F) = I at hIh hIn
  have hIb : Below' n I := fun a b h => by rw [hIh] at h; have := hFb b a h; omega
  have hIr := right_below hn hIn hIb
  have hCh := compose_has I O
  have h2 : twoL I O = (I, O) := by unfold twoL; rw [hIr, hOr, if_pos (by rw [hIn, hO])]
  have hCn : (composeL I O).n = (n : Int) := by unfold composeL; rw [cmpF_n, h2]; exact hIn
  rw [h2] at hCh
  have hCb : Below' n (composeL I O) := fun a b h => by
    rw [hCh] at h
    obtain ⟨c, _, hc⟩ := List.any_eq_true.1 h
    have hc := Bool.and_eq_true_iff.1 hc
    exact ⟨(hIb _ _ hc.1).1, (hOb _ _ hc.2).2⟩
  have hCr := right_below hn hCn hCb
  generalize composeL I O = C at *
  have hNb := onL_below hn
  have hNn : (onL (n : Int) 18446744073709551615#64).n = (n : Int) := by unfold onL; rw [if_neg (by omega)]; exact Rl.n_by _ _
  have hNr := right_below hn hNn hNb
  have hNh := onL_has hn
  rw [hF, minus_eq]
  generalize onL (n : Int) 18446744073709551615#64 = N at *
  have h3 : twoL C N = (C, N) := by unfold twoL; rw [hCr, hNr, if_pos (by rw [hCn, hNn])]
  unfold twoR
  rw [h3]
  apply Rl.ext_has
  · rw [Rl.n_gen, frL, frP_n, hCn]
  · intro a b ha hb
    rw [Bool.eq_iff_iff, frL, frP_has ha hb, Rl.has_gen]
    simp only [decide_eq_true (show a < 64 ∧ b < 64 from ⟨ha, hb⟩), Bool.true_and, pTwo, Bool.and_eq_true, Bool.not_eq_true', hCh, List.any_eq_true, List.mem_range, hIh]
    constructor
    · rintro ⟨⟨c, hc, h4, h5⟩, h6⟩
      have h7 := hFb c a h4
      refine ⟨c, .inl h7.1, h4, h5, fun e => ?_⟩
      rw [(hNh a b ha hb).2 ⟨h7.2, e⟩] at h6
      cases h6
    · rintro ⟨c, h4, h5, h6, h7⟩
      have h8 := hFb c a h5
      refine ⟨⟨c, by omega, h5, h6⟩, ?_⟩
      cases hh : N.has a b with
      | false => rfl
      | true => exact absurd ((hNh a b ha hb).1 hh).2 h7
end Go.Proofs.YtehimiadpgbhmaaDoor

/-
  Stands for E0 where E0d is in use. Own work.
-/

/-
  The tests of events and of pairs of events. Own work; the walks of chains of tests printed by a program of our own.
-/
namespace Go.Proofs.YtehimiadpgbhmaaDoor
open Go.AM
set_option maxRecDepth 100000

theorem enc5 (e : Ev) : encEv e = .agg (evV e).toArray := rfl
def memB (e : Ev) : Bool := decide (e.kind ≥ 1) && decide (e.kind ≤ 3)
def togB (a b : Ev) : Bool := decide (a.thread = b.thread) && !decide (a.thread = -1)
def wrB (e : Ev) : Bool := decide (e.kind = 1) || decide (e.kind = 2)
def rdB (e : Ev) : Bool := decide (e.kind = 3)

theorem together_ok (a b : Ev) (w : World) : Gives Tryd.prog 39 [encEv a, encEv b] w (.bool (togB a b)) := by
  refine Gives.of_run Tryd.func39 rfl (by show 2 ≤ 15; decide) ?_
  by_cases c : a.thread = b.thread
  · refine RunF_sound tab_ok noX_local 100 [true] _ _ rfl ?_ ?_
    · simp [c]
    refine Run.retP tab_ok Tryd.func39 rfl trivial (fun M => ?_)
    by_cases c2 : b.thread = -1 <;> simp [conc, togB, c, c2]
  · refine RunF_sound tab_ok noX_local 100 [false] _ _ rfl ?_ ?_
    · simp [c]
    refine Run.retP tab_ok Tryd.func39 rfl trivial (fun M => ?_)
    simp [conc, togB, c]
theorem together_enters : Enters Tryd.prog 39 := enters_mk Tryd.func39 (by decide) rfl

theorem po1_ok (i k : Int) (a b : Ev) (w : World) : Gives Tryd.prog 38 [.int .i64 i, .int .i64 k, encEv a, encEv b] w (.bool (decide (i < k) && togB a b)) := by
  refine Gives.of_run Tryd.func38 rfl (by show 4 ≤ 17; decide) ?_
  by_cases c : i < k
  · refine RunF_sound tab_ok noX_local 100 [true] _ _ rfl ?_ ?_
    · simp [c]
    refine Run.callFn noX_local rfl rfl rfl rfl rfl rfl rfl together_enters rfl (fun w' _ => together_ok a b w') ?_
    refine RunF_sound tab_ok noX_local 100 [] _ _ rfl ?_ ?_
    · simp
    refine Run.retP tab_ok Tryd.func38 rfl trivial (fun M => ?_)
    simp [conc, c]
  · refine RunF_sound tab_ok noX_local 100 [false] _ _ rfl ?_ ?_
    · simp [c]
    refine Run.retP tab_ok Tryd.func38 rfl trivial (fun M => ?_)
    simp [conc, c]
theorem po1_enters : Enters Tryd.prog 38 := enters_mk Tryd.func38 (by decide) rfl

theorem int1_ok (i k : Int) (a b : Ev) (w : World) : Gives Tryd.prog 40 [.int .i64 i, .int .i64 k, encEv a, encEv b] w (.bool (togB a b)) := by
  refine Gives.of_run Tryd.func40 rfl (by show 4 ≤ 12; decide) ?_
  refine RunF_sound tab_ok noX_local 100 [] _ _ rfl ?_ ?_
  · simp
  refine Run.callFn noX_local rfl rfl rfl rfl rfl rfl rfl together_enters rfl (fun w' _ => together_ok a b w') ?_
  refine RunF_sound tab_ok noX_local 100 [] _ _ rfl ?_ ?_
  · simp
  exact Run.retP tab_ok Tryd.func40 rfl trivial (fun M => rfl)
theorem int1_enters : Enters Tryd.prog 40 := enters_mk Tryd.func40 (by decide) rfl

def rmwB (i k : Int) (a b : Ev) : Bool := ((((((decide (i < k) && togB a b) && decide (a.index = b.index)) && a.locked) && b.locked) && decide (a.kind = 3)) && (decide (b.kind = 2) || decide (b.kind = 1)))

theorem rmw1_ok (i k : Int) (a b : Ev) (w : World) : Gives Tryd.prog 48 [.int .i64 i, .int .i64 k, encEv a, encEv b] w (.bool (rmwB i k a b)) := by
  refine Gives.of_run Tryd.func48 rfl (by show 4 ≤ 47; decide) ?_
  by_cases c1 : i < k
  · refine RunF_sound tab_ok noX_local 200 [true] _ _ rfl ?_ ?_
    · simp [c1]
    refine Run.callFn noX_local rfl rfl rfl rfl rfl rfl rfl together_enters rfl (fun w' _ => together_ok a b w') ?_
    by_cases c2 : togB a b = true
    · have _ := c2
      by_cases c3 : a.index = b.index
      · have _ := c3
        by_cases c4 : a.locked = true
        · have _ := c4
          by_cases c5 : b.locked = true
          · have _ := c5
            by_cases c6 : a.kind = 3
            · have _ := c6
              by_cases c7 : b.kind = 2
              · have _ := c7
                refine RunF_sound tab_ok noX_local 200 [true, true, true, true, true, true] _ _ rfl ?_ ?_
                · simp [c2, c3, c4, c5, c6, c7]
                refine Run.retP tab_ok Tryd.func48 rfl trivial (fun M => ?_)
                simp [conc, rmwB, c1, c2, c3, c4, c5, c6, c7]
              · have _ := c7
                refine RunF_sound tab_ok noX_local 200 [true, true, true, true, true, false] _ _ rfl ?_ ?_
                · simp [c2, c3, c4, c5, c6, c7]
                refine Run.retP tab_ok Tryd.func48 rfl trivial (fun M => ?_)
                by_cases c8 : b.kind = 1 <;> simp [conc, rmwB, c1, c2, c3, c4, c5, c6, c7, c8]
            · have _ := c6
              refine RunF_sound tab_ok noX_local 200 [true, true, true, true, false] _ _ rfl ?_ ?_
              · simp [c2, c3, c4, c5, c6]
              refine Run.retP tab_ok Tryd.func48 rfl trivial (fun M => ?_)
              simp [conc, rmwB, c1, c2, c3, c4, c5, c6]
          · have _ := c5
            refine RunF_sound tab_ok noX_local 200 [true, true, true, false] _ _ rfl ?_ ?_
            · simp [c2, c3, c4, c5]
            refine Run.retP tab_ok Tryd.func48 rfl trivial (fun M => ?_)
            simp [conc, rmwB, c1, c2, c3, c4, c5]
        · have _ := c4
          refine RunF_sound tab_ok noX_local 200 [true, true, false] _ _ rfl ?_ ?_
          · simp [c2, c3, c4]
          refine Run.retP tab_ok Tryd.func48 rfl trivial (fun M => ?_)
          simp [conc, rmwB, c1, c2, c3, c4]
      · have _ := c3
        refine RunF_sound tab_ok noX_local 200 [true, false] _ _ rfl ?_ ?_
        · simp [c2, c3]
        refine Run.retP tab_ok Tryd.func48 rfl trivial (fun M => ?_)
        simp [conc, rmwB, c1, c2, c3]
    · have _ := c2
      refine RunF_sound tab_ok noX_local 200 [false] _ _ rfl ?_ ?_
      · simp [c2]
      refine Run.retP tab_ok Tryd.func48 rfl trivial (fun M => ?_)
      simp [conc, rmwB, c1, c2]
  · refine RunF_sound tab_ok noX_local 200 [false] _ _ rfl ?_ ?_
    · simp [c1]
    refine Run.retP tab_ok Tryd.func48 rfl trivial (fun M => ?_)
    simp [conc, rmwB, c1]
theorem rmw1_enters : Enters Tryd.prog 48 := enters_mk Tryd.func48 (by decide) rfl

theorem write_ok (e : Ev) (w : World) : Gives Tryd.prog 21 [encEv e] w (.bool (wrB e)) := by
  refine Gives.of_run Tryd.func21 rfl (by show 1 ≤ 11; decide) ?_
  by_cases c : e.kind = 1
  · refine RunF_sound tab_ok noX_local 100 [true] _ _ rfl ?_ ?_
    · simp [c]
    refine Run.retP tab_ok Tryd.func21 rfl trivial (fun M => ?_)
    simp [conc, wrB, c]
  · refine RunF_sound tab_ok noX_local 100 [false] _ _ rfl ?_ ?_
    · simp [c]
    refine Run.retP tab_ok Tryd.func21 rfl trivial (fun M => ?_)
    by_cases c2 : e.kind = 2 <;> simp [conc, wrB, c, c2]
theorem write_enters : Enters Tryd.prog 21 := enters_mk Tryd.func21 (by decide) rfl

theorem read_ok (e : Ev) (w : World) : Gives Tryd.prog 22 [encEv e] w (.bool (rdB e)) := by
  refine Gives.of_run Tryd.func22 rfl (by show 1 ≤ 6; decide) ?_
  refine RunF_sound tab_ok noX_local 100 [] _ _ rfl ?_ ?_
  · simp
  refine Run.retP tab_ok Tryd.func22 rfl trivial (fun M => ?_)
  by_cases c : e.kind = 3 <;> simp [conc, rdB, c]
theorem read_enters : Enters Tryd.prog 22 := enters_mk Tryd.func22 (by decide) rfl
end Go.Proofs.YtehimiadpgbhmaaDoor
