/-
  Own work, merged: LBITS, V0, E0, E1, E2, E3, E4, E5b, V1.
-/
import Derived.AtR
import Derived.Below
import Derived.ChangeKeysEq
import Derived.KernelRfl
import Derived.Laws.AppendOwn
import Derived.Laws.BytesString
import Derived.Laws.Cells
import Derived.Laws.CopyRow
import Derived.Laws.Entries
import Derived.Laws.Rows
import Derived.Laws.Small
import Derived.Laws.StructEq
import Derived.Lib.TrailingZeros
import Derived.Maps.AppendAt
import Derived.Orders
import Derived.RangeFuncRecord
import Derived.Test.YtmammebifhmnhaaDoorProg
import Derived.Test.YtmammebifhmnhaaDoorQ5BC0D5
/-
  The bits of a word, one after another; the lowest one taken away. Plain arithmetic; of no program. Own work.
-/
namespace Go.AM

/-- The places of a word's one bits, rising. -/
def bitsL (x : BitVec 64) : List Nat := (List.range 64).filter fun i => x.getLsbD i

/-- The lowest one bit's place. -/
def tz (x : BitVec 64) : Nat := Go.Lib.ctz 64 x.toNat

theorem tz_parts (x : BitVec 64) (h : x ≠ 0#64) : ∃ m, x.toNat = 2 ^ tz x * (2 * m + 1) ∧ tz x < 64 := by
  have h0 : x.toNat ≠ 0 := fun e => h (BitVec.eq_of_toNat_eq (by simpa using e))
  have := Go.Lib.ctzFrom_spec 64 x.toNat (by omega) x.isLt
  unfold tz Go.Lib.ctz
  rw [if_neg h0]
  exact this

theorem testBit_parts (k m i : Nat) : (2 ^ k * (2 * m + 1)).testBit i = (decide (i = k) || (decide (k < i) && m.testBit (i - k - 1))) := by
  rw [Nat.mul_comm, Nat.testBit_mul_two_pow]
  by_cases hik : k ≤ i
  · by_cases he : i = k
    · subst he; simp
    · obtain ⟨j, rfl⟩ : ∃ j, i = k + (j + 1) := ⟨i - k - 1, by omega⟩
      have e3 : k + (j + 1) - k = j + 1 := by omega
      have e4 : j + 1 - 1 = j := by omega
      have d1 : (2 * m + 1) / 2 = m := by omega
      rw [e3, e4, Nat.testBit_succ, d1]
      have : ¬ k + (j + 1) = k := by omega
      have h2 : k < k + (j + 1) := by omega
      have h3 : k ≤ k + (j + 1) := by omega
      simp [h2, h3]
  · have : ¬ i = k := by omega
    have h2 : ¬ k < i := by omega
    simp [hik, this, h2]

theorem testBit_pred (k m i : Nat) : (2 ^ k * (2 * m + 1) - 1).testBit i = (decide (i < k) || (decide (k < i) && m.testBit (i - k - 1))) := by
  have hpos : 0 < 2 ^ k := Nat.two_pow_pos k
  have e : 2 ^ k * (2 * m + 1) - 1 = 2 ^ k * (2 * m) + (2 ^ k - 1) := by
    rw [Nat.mul_add, Nat.mul_one]; omega
  rw [e, Nat.testBit_two_pow_mul_add _ (by omega)]
  by_cases hik : i < k
  · have : ¬ k < i := by omega
    simp [hik, Nat.testBit_two_pow_sub_one]
  · by_cases he : i = k
    · subst he; simp
    · obtain ⟨j, rfl⟩ : ∃ j, i = k + (j + 1) := ⟨i - k - 1, by omega⟩
      have e3 : k + (j + 1) - k = j + 1 := by omega
      have e4 : j + 1 - 1 = j := by omega
      have d1 : (2 * m) / 2 = m := by omega
      have h2 : k < k + (j + 1) := by omega
      simp only [hik, if_false, decide_false, Bool.false_or, h2, decide_true, Bool.true_and]
      rw [e3, e4, Nat.testBit_succ, d1]

theorem get_low (x : BitVec 64) (h : x ≠ 0#64) (i : Nat) : x.getLsbD i = true → tz x ≤ i := by
  obtain ⟨m, hm, _⟩ := tz_parts x h
  intro hi
  rw [BitVec.getLsbD, hm, testBit_parts] at hi
  simp at hi
  omega

theorem get_tz (x : BitVec 64) (h : x ≠ 0#64) : x.getLsbD (tz x) = true := by
  obtain ⟨m, hm, _⟩ := tz_parts x h
  rw [BitVec.getLsbD, hm, testBit_parts]
  simp

theorem tz_lt (x : BitVec 64) (h : x ≠ 0#64) : tz x < 64 := (tz_parts x h).elim fun _ h => h.2

/-- The lowest one bit taken away. -/
def dropLow (x : BitVec 64) : BitVec 64 := x &&& (x - 1#64)

theorem get_dropLow (x : BitVec 64) (h : x ≠ 0#64) (i : Nat) : (dropLow x).getLsbD i = (x.getLsbD i && !decide (i = tz x)) := by
  obtain ⟨m, hm, hk⟩ := tz_parts x h
  have h0 : x.toNat ≠ 0 := fun e => h (BitVec.eq_of_toNat_eq (by simpa using e))
  have e1 : (x - 1#64).toNat = x.toNat - 1 := by
    rw [BitVec.toNat_sub]
    have := x.isLt
    have h1 : (1#64).toNat = 1 := rfl
    rw [h1]; omega
  unfold dropLow
  rw [BitVec.getLsbD_and, BitVec.getLsbD, BitVec.getLsbD, e1, hm, testBit_parts, testBit_pred]
  by_cases h1 : i = tz x
  · subst h1; simp
  · by_cases h2 : tz x < i
    · cases m.testBit (i - tz x - 1) <;> simp [h1, h2]
    · simp [h1, h2]

theorem bitsL_zero : bitsL 0#64 = [] := by
  unfold bitsL
  rw [List.filter_eq_nil_iff]
  intro i _; simp

theorem range_split (n : Nat) (p q : Nat → Bool) (k : Nat) (hk : k < n) (hlow : ∀ i, i < k → p i = false) (hp : p k = true) (hq : ∀ i, q i = (p i && !decide (i = k))) :
    (List.range n).filter p = k :: (List.range n).filter q := by
  have e : List.range n = List.range k ++ (k :: (List.range n).drop (k + 1)) := by
    have := List.take_append_drop k (List.range n)
    rw [List.take_range, Nat.min_eq_left (by omega), List.drop_eq_getElem_cons (by simpa using hk)] at this
    simpa using this.symm
  have hd : ∀ i ∈ (List.range n).drop (k + 1), k < i := by
    intro i hi
    rw [List.mem_iff_getElem] at hi
    obtain ⟨j, hj, rfl⟩ := hi
    simp; omega
  have f1 : (List.range k).filter p = [] := by
    rw [List.filter_eq_nil_iff]
    intro i hi; rw [hlow i (List.mem_range.1 hi)]; simp
  have f2 : (List.range k).filter q = [] := by
    rw [List.filter_eq_nil_iff]
    intro i hi; rw [hq, hlow i (List.mem_range.1 hi)]; simp
  have f3 : ((List.range n).drop (k + 1)).filter q = ((List.range n).drop (k + 1)).filter p := by
    refine List.filter_congr fun i hi => ?_
    have := hd i hi
    rw [hq]
    have : ¬ i = k := by omega
    simp [this]
  rw [e, List.filter_append, List.filter_append, f1, f2, List.nil_append, List.nil_append, List.filter_cons, List.filter_cons, if_pos hp]
  have : q k = false := by rw [hq]; simp
  rw [this, if_neg (by simp), f3]

theorem bitsL_cons (x : BitVec 64) (h : x ≠ 0#64) : bitsL x = tz x :: bitsL (dropLow x) := by
  refine range_split 64 _ _ _ (tz_lt x h) ?_ (get_tz x h) (get_dropLow x h)
  intro i hi
  cases hb : x.getLsbD i with
  | false => rfl
  | true => have := get_low x h i hb; omega

theorem bitsL_mem (x : BitVec 64) (i : Nat) : i ∈ bitsL x ↔ x.getLsbD i = true := by
  unfold bitsL
  rw [List.mem_filter, List.mem_range]
  constructor
  · exact fun h => h.2
  · intro h
    refine ⟨?_, h⟩
    rcases Nat.lt_or_ge i 64 with h1 | h1
    · exact h1
    · rw [BitVec.getLsbD_of_ge _ _ h1] at h; cases h

theorem bitsL_len_le (x : BitVec 64) : (bitsL x).length ≤ 64 := by
  have := List.length_filter_le (fun i => x.getLsbD i) (List.range 64)
  simpa [bitsL] using this

theorem pop_filter : ∀ (n x k : Nat), pop n x = ((List.range' k n).filter fun i => x.testBit (i - k)).length
  | 0, _, _ => rfl
  | n + 1, x, k => by
    rw [List.range'_succ, List.filter_cons]
    have h0 : x.testBit (k - k) = decide (x % 2 = 1) := by rw [Nat.sub_self, Nat.testBit_zero]
    have ih := pop_filter n (x / 2) (k + 1)
    have e : (List.range' (k + 1) n).filter (fun i => x.testBit (i - k)) = (List.range' (k + 1) n).filter (fun i => (x / 2).testBit (i - (k + 1))) := by
      refine List.filter_congr fun i hi => ?_
      have := List.mem_range'_1.1 hi
      rw [show i - k = (i - (k + 1)) + 1 by omega, Nat.testBit_succ]
    rw [e, h0]
    simp only [pop]
    by_cases h : x % 2 = 1
    · simp [h, ih]; omega
    · have : x % 2 = 0 := by omega
      simp [this, ih]

theorem pop_bits (x : BitVec 64) : pop 64 x.toNat = (bitsL x).length := by
  rw [pop_filter 64 _ 0]
  unfold bitsL
  rw [List.range_eq_range']
  rfl

end Go.AM

/-
  Relations by rows and by tests of their pairs: plain laws, taken over from the texts of layer 2. Own work.
-/
namespace Go.AM
namespace Rl
/-- A relation by its rows. -/
def by_ (n : Int) (f : Nat → BitVec 64) : Rl := ⟨n, Vector.ofFn fun i => f i.1⟩

theorem row_by (n : Int) (f : Nat → BitVec 64) (i : Nat) : (by_ n f).row i = if i < 64 then f i else 0#64 := by
  unfold row by_
  split
  · simp
  · rfl

theorem n_by (n : Int) (f : Nat → BitVec 64) : (by_ n f).n = n := rfl

theorem by_congr {n : Int} {f g : Nat → BitVec 64} (h : ∀ i, i < 64 → f i = g i) : by_ n f = by_ n g := by
  refine ext' rfl fun i hi => ?_
  rw [row_by, row_by, if_pos hi, if_pos hi, h i hi]

theorem set_by (n : Int) (f : Nat → BitVec 64) (i : Nat) (x : BitVec 64) : (by_ n f).setRow i x = by_ n (fun j => if i = j then x else f j) := by
  refine ext' (by rw [n_setRow]; rfl) fun j hj => ?_
  rw [row_setRow, row_by, row_by, if_pos hj, if_pos hj]
  by_cases h : i = j
  · subst h; simp [hj]
  · simp [h]

theorem void_by (n : Int) : void n = by_ n (fun _ => 0#64) := by
  refine ext' rfl fun i _ => ?_
  rw [row_void, row_by]; split <;> rfl

end Rl

theorem bit_iff (x : BitVec 64) (k : Nat) : (x >>> k &&& 1#64) = 1#64 ↔ x.getLsbD k = true := by
  constructor
  · intro h
    have := congrArg (fun y => BitVec.getLsbD y 0) h
    simpa using this
  · intro h
    apply BitVec.eq_of_getLsbD_eq
    intro i hi
    simp only [BitVec.getLsbD_and, BitVec.getLsbD_ushiftRight, BitVec.getLsbD_one]
    by_cases h0 : i = 0
    · subst h0; simp [h]
    · simp [h0]

theorem relV_one' (r : Rl) : (∀ c ∈ relV r, c.oneCell' = true) ↔ True := iff_true_intro (relV_one r)

/-- The word whose bits are a test's. -/
def bitsB (f : Nat → Bool) : BitVec 64 := (List.range 64).foldl (fun x i => if f i then x ||| 1#64 <<< i else x) 0#64

theorem one_shl_get (k j : Nat) (hk : k < 64) : (1#64 <<< k).getLsbD j = decide (j = k) := by
  rw [BitVec.getLsbD_shiftLeft, BitVec.getLsbD_one]
  by_cases h : j = k
  · subst h; simp [hk]
  · by_cases h1 : j < k
    · simp [h1, h]
    · have : ¬ j - k = 0 := by omega
      simp [this, h]

theorem bitsB_fold (f : Nat → Bool) : ∀ (l : List Nat) (x : BitVec 64) (j : Nat), (∀ i ∈ l, i < 64) →
    (l.foldl (fun x i => if f i then x ||| 1#64 <<< i else x) x).getLsbD j = (x.getLsbD j || (decide (j ∈ l) && f j))
  | [], x, j, _ => by simp
  | i :: l, x, j, h => by
    rw [List.foldl_cons, bitsB_fold f l _ j (fun i hi => h i (List.mem_cons_of_mem _ hi))]
    have hi := h i (List.mem_cons_self ..)
    by_cases hf : f i = true
    · rw [if_pos hf, BitVec.getLsbD_or, one_shl_get i j hi]
      by_cases hj : j = i
      · subst hj; simp [hf]
      · simp [hj]
    · rw [if_neg hf]
      by_cases hj : j = i
      · subst hj
        have : f j = false := by simpa using hf
        simp [this]
      · simp [hj]

theorem bitsB_get (f : Nat → Bool) (j : Nat) : (bitsB f).getLsbD j = (decide (j < 64) && f j) := by
  unfold bitsB
  rw [bitsB_fold f _ _ j (fun i hi => List.mem_range.1 hi)]
  simp

namespace Rl
/-- The relation over n numbers in which those pairs stand that pass a test. -/
def gen (n : Int) (q : Nat → Nat → Bool) : Rl := by_ n fun i => bitsB (q i)

theorem n_gen (n : Int) (q : Nat → Nat → Bool) : (gen n q).n = n := rfl

theorem has_gen (n : Int) (q : Nat → Nat → Bool) (a b : Nat) : (gen n q).has a b = (decide (a < 64 ∧ b < 64) && q a b) := by
  unfold has gen
  rw [row_by]
  by_cases ha : a < 64
  · rw [if_pos ha, bitsB_get]; simp [ha]
  · rw [if_neg ha]; simp [ha]

theorem gen_congr {n : Int} {q q' : Nat → Nat → Bool} (h : ∀ a b, a < 64 → b < 64 → q a b = q' a b) : gen n q = gen n q' :=
  ext_has rfl fun a b ha hb => by rw [has_gen, has_gen, h a b ha hb]

theorem has_lt (r : Rl) {a b : Nat} (h : r.has a b = true) : a < 64 ∧ b < 64 := by
  constructor
  · rcases Nat.lt_or_ge a 64 with h1 | h1
    · exact h1
    · rw [has, row_ge _ h1] at h; simp at h
  · rcases Nat.lt_or_ge b 64 with h1 | h1
    · exact h1
    · rw [has, BitVec.getLsbD_of_ge _ _ h1] at h; cases h

theorem gen_void (n : Int) : void n = gen n fun _ _ => false := by
  apply ext_has
  · rfl
  · intro a b _ _
    rw [has_gen, has, row_void]; simp

theorem gen_add (n : Int) (q : Nat → Nat → Bool) (a b : Nat) (ha : a < 64) (hb : b < 64) :
    (gen n q).setRow a ((gen n q).row a ||| 1#64 <<< b) = gen n fun x y => q x y || (decide (x = a) && decide (y = b)) := by
  refine ext_has (n_setRow _ _ _) fun x y hx hy => ?_
  rw [has_gen, has, row_setRow]
  by_cases h : a = x
  · subst h
    rw [if_pos ⟨rfl, ha⟩, BitVec.getLsbD_or, one_shl_get b y hb]
    have : ((gen n q).row a).getLsbD y = (gen n q).has a y := rfl
    rw [this, has_gen]
    simp [ha, hy]
  · rw [if_neg (by simp [h])]
    have : ((gen n q).row x).getLsbD y = (gen n q).has x y := rfl
    rw [this, has_gen]
    simp [hx, hy, Ne.symm h]

theorem has_setRow (r : Rl) (a : Nat) (w : BitVec 64) (x y : Nat) : (r.setRow a w).has x y = if a = x ∧ a < 64 then w.getLsbD y else r.has x y := by
  rw [has, row_setRow]; split <;> rfl

/-- Those pairs of a test that have been looked at: all of the rows below a, of row a those below b. -/
def seen (p : Nat → Nat → Bool) (a b : Nat) : Nat → Nat → Bool := fun x y => p x y && (decide (x < a) || (decide (x = a) && decide (y < b)))

theorem seen_yes {n : Int} {p : Nat → Nat → Bool} {a b : Nat} (ha : a < 64) (hb : b < 64) (h : p a b = true) :
    (gen n (seen p a b)).setRow a ((gen n (seen p a b)).row a ||| 1#64 <<< b) = gen n (seen p a (b + 1)) := by
  rw [gen_add _ _ _ _ ha hb]
  refine gen_congr fun x y _ _ => ?_
  unfold seen
  by_cases hx : x = a
  · subst hx
    by_cases hy : y = b
    · subst hy; simp [h]
    · have e : decide (y < b + 1) = decide (y < b) := decide_eq_decide.2 (by omega)
      simp [hy, e]
  · simp [hx]

theorem seen_no {n : Int} {p : Nat → Nat → Bool} {a b : Nat} (h : p a b = false) : gen n (seen p a b) = gen n (seen p a (b + 1)) := by
  refine gen_congr fun x y _ _ => ?_
  unfold seen
  by_cases hx : x = a
  · subst hx
    by_cases hy : y = b
    · subst hy; simp [h]
    · have e : decide (y < b + 1) = decide (y < b) := decide_eq_decide.2 (by omega)
      simp [e]
  · simp [hx]

theorem seen_row {n : Int} {p : Nat → Nat → Bool} {a b : Nat} (hp : ∀ x y, p x y = true → y < b) : gen n (seen p a b) = gen n (seen p (a + 1) 0) := by
  refine gen_congr fun x y _ _ => ?_
  unfold seen
  cases hxy : p x y with
  | false => simp
  | true =>
    have := hp x y hxy
    rw [Bool.eq_iff_iff]
    simp
    omega

theorem seen_0 (n : Int) (p : Nat → Nat → Bool) : gen n (seen p 0 0) = void n := by
  rw [gen_void]
  refine gen_congr fun x y _ _ => ?_
  unfold seen; simp

theorem seen_all {n : Int} {p : Nat → Nat → Bool} {a : Nat} (hp : ∀ x y, p x y = true → x < a) : gen n (seen p a 0) = gen n p := by
  refine gen_congr fun x y _ _ => ?_
  unfold seen
  cases hxy : p x y with
  | false => simp
  | true => have := hp x y hxy; simp [this]

end Rl
end Go.AM
namespace Go.Proofs.YtmammebifhmnhaaDoor
open Go.AM
set_option maxRecDepth 100000

@[simp] theorem zrel : z34 = relV (Rl.void 0) := rfl
@[simp] theorem sz_int : tab.size 3 = some 1 := rfl
@[simp] theorem sz_rows : tab.size 32 = some 64 := rfl
@[simp] theorem splice_void (n : Int) : splice (relV (Rl.void 0)) 0 [.int .i64 n] = relV (Rl.void n) := rfl
/-- May a pair stand in a relation? -/
def okBit (r : Rl) (a b : Nat) : Prop := ¬ (r.has a b = true ∧ ((a : Int) ≥ r.n ∨ (b : Int) ≥ r.n))

theorem good_iff (r : Rl) (a : Nat) (h0 : 0 ≤ r.n) : good r a = true ↔ ∀ b, b < 64 → okBit r a b := by
  unfold good okBit Rl.has
  constructor
  · intro h b hb hbad
    simp only [Bool.not_eq_true', Bool.or_eq_false_iff, Bool.and_eq_false_iff, decide_eq_false_iff_not, bne_eq_false_iff_eq] at h
    obtain ⟨h1, h2⟩ := h
    rcases hbad.2 with h3 | h3
    · rcases h1 with h4 | h4
      · exact h4 h3
      · rw [h4] at hbad; simp at hbad
    · have := congrArg (fun x => BitVec.getLsbD x b) h2
      simp only [BitVec.getLsbD_and, BitVec.getLsbD_not, hbad.1, mask_get _ _ h0, BitVec.getLsbD_zero] at this
      simp at this
      omega
  · intro h
    simp only [Bool.not_eq_true', Bool.or_eq_false_iff, Bool.and_eq_false_iff, decide_eq_false_iff_not, bne_eq_false_iff_eq]
    constructor
    · by_cases c : (a : Int) ≥ r.n
      · right
        apply BitVec.eq_of_getLsbD_eq
        intro b hb
        have := h b hb
        rw [BitVec.getLsbD_zero]
        cases hh : (r.row a).getLsbD b
        · rfl
        · exact absurd ⟨hh, .inl c⟩ this
      · exact .inl c
    · apply BitVec.eq_of_getLsbD_eq
      intro b hb
      rw [BitVec.getLsbD_zero, BitVec.getLsbD_and, BitVec.getLsbD_not, mask_get _ _ h0]
      cases hh : (r.row a).getLsbD b
      · rfl
      · have := h b hb
        have h3 : (b : Int) < r.n := by
          rcases Int.lt_or_le (b : Int) r.n with h3 | h3
          · exact h3
          · exact absurd ⟨hh, .inr h3⟩ this
        simp [hb, h3]

open Classical in
/-- The relation, if it is right. -/
noncomputable def rightL (r : Rl) : Rl := if checkI r = 0 then r else Rl.void 0

theorem right_ok (r : Rl) (w : World) : Gives Tryd.prog 78 [encRel r] w (encRel (rightL r)) := by
  refine Gives.of_run Tryd.func78 rfl (by show 1 ≤ 8; decide) ?_
  refine RunF_sound tab_ok noX_local 100 [] _ _ rfl ?_ ?_
  · simp [fillL, Value.cells, segsVals, relV_one']
  refine Run.callFn noX_local rfl rfl rfl rfl rfl rfl rfl check_enters rfl (fun w' _ => check_ok r w') ?_
  by_cases h : checkI r = 0
  · refine RunF_sound tab_ok noX_local 100 [false] _ _ rfl ?_ ?_
    · simp [h, fillL, Value.cells, segsVals, relV_one']
    · refine Run.retP tab_ok Tryd.func78 rfl ?_ (fun M => ?_)
      · simp [fillL, Value.cells]
      rw [rightL, if_pos h]; rfl
  · refine RunF_sound tab_ok noX_local 100 [true] _ _ rfl ?_ ?_
    · simp [h, fillL, Value.cells, segsVals, relV_one']
    · refine Run.retP tab_ok Tryd.func78 rfl ?_ (fun M => ?_)
      · simp [fillL, Value.cells]
      rw [rightL, if_neg h]; rfl

theorem right_enters : Enters Tryd.prog 78 := enters_mk Tryd.func78 (by decide) rfl

/-- A right relation's bounds. -/
theorem rightL_n (r : Rl) : 0 ≤ (rightL r).n ∧ (rightL r).n ≤ 64 := by
  unfold rightL
  split
  · rename_i h
    unfold checkI at h
    split at h
    · cases h
    · omega
  · simp [Rl.void]

theorem good_void : ∀ i, i < 64 → good (Rl.void 0) i = true := by
  intro i _
  unfold good
  rw [Rl.row_void]
  simp

theorem rightL_good (r : Rl) : ∀ i, i < 64 → good (rightL r) i = true := by
  unfold rightL
  split
  · rename_i h
    unfold checkI at h
    split at h
    · cases h
    · split at h
      · rename_i h2; exact h2
      · cases h
  · exact good_void

theorem checkI_right (r : Rl) : checkI (rightL r) = 0 := by
  have h := rightL_n r
  unfold checkI
  rw [if_neg (by omega), if_pos (rightL_good r)]

theorem rightL_of (r : Rl) (h : checkI r = 0) : rightL r = r := by unfold rightL; rw [if_pos h]

theorem rightL_idem (r : Rl) : rightL (rightL r) = rightL r := rightL_of _ (checkI_right r)

/-- Where a right relation's pairs are. -/
theorem right_has (r : Rl) (a b : Nat) (h : (rightL r).has a b = true) : (a : Int) < (rightL r).n ∧ (b : Int) < (rightL r).n := by
  have hn := rightL_n r
  have ha : a < 64 := by
    rcases Nat.lt_or_ge a 64 with h1 | h1
    · exact h1
    · rw [Rl.has, Rl.row_ge _ h1] at h; simp at h
  have hb : b < 64 := by
    rcases Nat.lt_or_ge b 64 with h1 | h1
    · exact h1
    · rw [Rl.has, BitVec.getLsbD_of_ge _ _ h1] at h; cases h
  have := (good_iff (rightL r) a hn.1).1 (rightL_good r a ha) b hb
  unfold okBit at this
  by_cases h1 : (a : Int) < (rightL r).n
  · by_cases h2 : (b : Int) < (rightL r).n
    · exact ⟨h1, h2⟩
    · exact absurd ⟨h, .inr (by omega)⟩ this
  · exact absurd ⟨h, .inl (by omega)⟩ this

theorem right_row0 (r : Rl) (i : Nat) (h : (rightL r).n ≤ (i : Int)) : (rightL r).row i = 0#64 := by
  apply BitVec.eq_of_getLsbD_eq
  intro j _
  rw [BitVec.getLsbD_zero]
  cases hb : ((rightL r).row i).getLsbD j with
  | false => rfl
  | true => have := right_has r i j hb; omega

theorem relV_tail_one (r : Rl) : (∀ c ∈ (relV r).tail, c.oneCell' = true) ↔ True := iff_true_intro fun c hc => relV_one r c (List.mem_of_mem_tail hc)

theorem by_row (r : Rl) : Rl.by_ r.n r.row = r := by
  apply Rl.ext'
  · exact Rl.n_by _ _
  · intro i hi
    rw [Rl.row_by, if_pos hi]

def notP (r : Rl) (k : Nat) : Rl := Rl.by_ r.n fun i => if i < k then mask r.n &&& ~~~(r.row i) else r.row i

theorem n_notP (r : Rl) (k : Nat) : (notP r k).n = r.n := Rl.n_by _ _

theorem notP_0 (r : Rl) : notP r 0 = r := by
  unfold notP
  conv => rhs; rw [← by_row r]
  exact Rl.by_congr fun i _ => by simp

theorem notP_row (r : Rl) (k : Nat) (hk : k < 64) : (notP r k).row k = r.row k := by
  rw [notP, Rl.row_by, if_pos hk, if_neg (by omega)]

theorem notP_step (r : Rl) (k : Nat) : (notP r k).setRow k (mask r.n &&& ~~~(r.row k)) = notP r (k + 1) := by
  unfold notP
  rw [Rl.set_by]
  refine Rl.by_congr fun i _ => ?_
  by_cases h : k = i
  · subst h; simp
  · rw [if_neg h]
    have : (i < k) ↔ (i < k + 1) := by omega
    simp only [this]

noncomputable def notL (r : Rl) : Rl := notP (rightL r) (rightL r).n.toNat

theorem not_ok (r : Rl) (w : World) : Gives Tryd.prog 101 [encRel r] w (encRel (notL r)) := by
  refine Gives.of_run Tryd.func101 rfl (by show 1 ≤ 24; decide) ?_
  refine RunF_sound tab_ok noX_local 100 [] _ _ rfl ?_ ?_
  · simp [segsVals, relV_one']
  refine Run.callFn noX_local rfl rfl rfl rfl rfl rfl rfl right_enters rfl (fun w' _ => right_ok r w') ?_
  have hn := rightL_n r
  unfold notL
  generalize rightL r = R at hn
  refine RunF_sound tab_ok noX_local 100 [] _ _ rfl ?_ ?_
  · simp [fillL, Value.cells, segsVals, relV_one', splice]
  suffices H : ∀ (d k : Nat), (k : Int) + d = R.n → ∀ σ, inT σ.t [(1, .ptr 0 0), (2, .ptr 1 0), (7, .v (.int .i64 R.n)), (8, .v (.int .i64 (k : Int)))] →
      inT σ.h [(0, .cells 34 [.vals 65 (relV (notP R k))]), (1, .cells 34 [.vals 65 (relV (Rl.void 0))])] → Run _ _ σ by
    refine H R.n.toNat 0 (by omega) _ ⟨rfl, rfl, ?_, rfl, trivial⟩ ⟨?_, rfl, trivial⟩
    · simp [splice, lk]
    · rw [notP_0]; simp [splice, lk]
  intro d
  induction d with
  | zero =>
    intro k hk σ ht hh
    refine Run.to ?_ ht hh (n' := 2)
    refine RunF_sound tab_ok noX_local 100 [false] _ _ rfl ?_ ?_
    · simp [relV_one', segsVals]; omega
    · refine Run.retP tab_ok Tryd.func101 rfl ?_ (fun M => ?_)
      · simp
      have : R.n.toNat = k := by omega
      rw [this]; rfl
  | succ d ih =>
    intro k hk σ ht hh
    refine Run.to ?_ ht hh (n' := 2)
    have hk' : k < 64 := by omega
    refine RunF_sound tab_ok noX_local 100 [true] _ _ rfl ?_ ?_
    · simp; omega
    refine Run.drawA noX_local rfl [] [(0, .cells 34 [.vals 65 (relV (notP R k))])] rfl rfl ⟨rfl, trivial⟩ ?_
    refine RunOF_sound tab_ok noX_local rfl rfl 100 [] _ _ rfl ?_ ?_
    · simp [relV_get _ _ hk', intAt_row _ _ hk', okCell, Value.oneCell', inT]; omega
    refine RunO.callFn (r := .int .u64 (un (mask R.n))) noX_local rfl rfl rfl rfl rfl rfl rfl rfl whole_enters rfl (fun w' _ => ?_) ?_
    · simp only [Nat.add_zero, Nat.sub_zero, intAt_0, n_notP]
      exact whole_ok R.n w' hn.1
    refine RunOF_sound tab_ok noX_local rfl rfl 2 [] _ _ rfl ?_ ?_
    · simp; omega
    refine RunO.effLast tab_ok noX_local rfl rfl rfl rfl ?_ (fun e => by cases e) rfl ?_
    · simp [okCell, Value.oneCell']; omega
    refine RunF_sound tab_ok noX_local 100 [] _ _ rfl ?_ ?_
    · simp
    refine ih (k + 1) (by omega) _ ⟨rfl, rfl, rfl, i64_eq (wrap_succ (by omega)), trivial⟩ ⟨congrArg (fun l => some (Blk.cells 34 [.vals 65 l])) ?_, rfl, trivial⟩
    have e1 : intAt (relV (notP R k)) (1 + k) = un (R.row k) := by rw [intAt_row _ _ hk', notP_row R k hk']
    simp [e1, relV_set _ _ hk', notP_step]

theorem not_enters : Enters Tryd.prog 101 := enters_mk Tryd.func101 (by decide) rfl

def pNot (R : Rl) (x y : Nat) : Bool := decide ((x : Int) < R.n ∧ (y : Int) < R.n) && !R.has x y

theorem has_row (r : Rl) (a b : Nat) : (r.row a).getLsbD b = r.has a b := rfl

theorem row0_of {R : Rl} (hR : rightL R = R) {i : Nat} (h : R.n ≤ (i : Int)) : R.row i = 0#64 := by
  have := right_row0 R i (by rw [hR]; exact h)
  rwa [hR] at this

theorem not_eq (r : Rl) : notL r = Rl.gen (rightL r).n (pNot (rightL r)) := by
  have hn := rightL_n r
  have hR := rightL_idem r
  unfold notL
  generalize rightL r = R at hn hR
  apply Rl.ext_has
  · rw [n_notP, Rl.n_gen]
  · intro x y hx hy
    rw [Rl.has_gen, decide_eq_true ⟨hx, hy⟩, Bool.true_and]
    show ((notP R R.n.toNat).row x).getLsbD y = _
    unfold notP pNot
    rw [Rl.row_by, if_pos hx]
    by_cases hlt : x < R.n.toNat
    · rw [if_pos hlt, BitVec.getLsbD_and, BitVec.getLsbD_not, mask_get _ _ hn.1, decide_eq_true hy, Bool.true_and, has_row]
      congr 1
      apply decide_eq_decide.2; omega
    · rw [if_neg hlt, row0_of hR (by omega), BitVec.getLsbD_zero, decide_eq_false (by omega), Bool.false_and]

theorem eqRow (r s : Rl) (w : World) : ∀ (is : List Nat), (∀ i ∈ is, i < 64) → ∃ b : Bool, (Op.eqItems 9998 31 1 (rowV r).toArray (rowV s).toArray is).run Tryd.prog w = .ok b w ∧ (b = true ↔ ∀ i ∈ is, r.row i = s.row i)
  | [], _ => ⟨true, by simp [Op.eqItems], by simp⟩
  | i :: is, h => by
    have hi : i < 64 := h i (by simp)
    have hu := tab_undP tab_ok (t := 31) (d := .int .u64) rfl
    have p : ∀ r : Rl, (part 31 (rowV r).toArray i).run Tryd.prog w = .ok (.int .u64 (un (r.row i))) w := fun r => by
      have := part_run tab_ok (P := Tryd.prog) (t := 31) (vs := (rowV r).toArray) (j := i) (p := _) (x := _) rfl (by rw [rowV_get r i hi, intAt_rowV r i hi]) w
      rw [this, intAt_rowV r i hi]
    have he : ∀ x y : Int, (Op.equalIn 9998 31 (.int .u64 x) (.int .u64 y)).run Tryd.prog w = .ok (x == y) w := fun x y => run_equalIn_int w 9997 _ _ _ _ _ hu
    obtain ⟨b, ih, hb⟩ := eqRow r s w is (fun j hj => h j (by simp [hj]))
    by_cases c : r.row i = s.row i
    · exact ⟨b, by simp [Op.eqItems, p, he, c, ih], by simp [hb, c]⟩
    · exact ⟨false, by simp [Op.eqItems, p, he, c], by simp [c]⟩

theorem eqRows (r s : Rl) (w : World) : ∃ b : Bool, (Op.equalIn 9999 32 (.agg (rowV r).toArray) (.agg (rowV s).toArray)).run Tryd.prog w = .ok b w ∧ (b = true ↔ ∀ i, i < 64 → r.row i = s.row i) := by
  have ha := tab_undP tab_ok (t := 32) (d := .array 64 31) rfl
  obtain ⟨i, hinfo⟩ : ∃ i, Tryd.prog.info? 31 = some i := by
    obtain ⟨_, x, hx, _⟩ := tab_ok 31 _ (rfl : lk tab 31 = some _)
    exact ⟨x, hx⟩
  have hc : Tryd.prog.cellsOf 31 = 1 := by kernel_rfl
  obtain ⟨b, hb, hb'⟩ := eqRow r s w (List.range 64) (fun i hi => List.mem_range.1 hi)
  refine ⟨b, ?_, hb'.trans ⟨fun h i hi => h i (List.mem_range.2 hi), fun h i hi => h i (List.mem_range.1 hi)⟩⟩
  rw [run_equalIn_array w 9998 _ _ ha hinfo, hc]
  exact hb

theorem relP0 (r : Rl) (w : World) : (part 3 (relV r).toArray 0).run Tryd.prog w = .ok (.int .i64 r.n) w :=
  part_run tab_ok (t := 3) (vs := (relV r).toArray) (j := 0) (p := _) (x := .int .i64 r.n) rfl (by simp) w

theorem relP1 (r : Rl) (w : World) : (part 32 (relV r).toArray 1).run Tryd.prog w = .ok (.agg (rowV r).toArray) w := by
  have := part_run tab_ok (P := Tryd.prog) (t := 32) (vs := (relV r).toArray) (j := 1) (p := _) (x := _) rfl (by simp) w
  simp only [relV_drop] at this
  exact this

theorem eqFields_cons {P : Program} {d : Nat} {xs ys : Array Value} {f : Field} {fs : List Field} {a b : Value} {r r' : Bool} {w : World} (hn : f.name ≠ "_") (ha : (part f.type xs f.offset).run P w = .ok a w) (hb : (part f.type ys f.offset).run P w = .ok b w)
    (hr : (Op.equalIn d f.type a b).run P w = .ok r w) (h : r = true → (Op.eqFields d xs ys fs).run P w = .ok r' w) : (Op.eqFields d xs ys (f :: fs)).run P w = .ok (r && r') w := by
  cases r
  · simp [Op.eqFields, hn, ha, hb, hr]
  · simp [Op.eqFields, hn, ha, hb, hr, h rfl]

theorem eqRel (r s : Rl) : EqT Tryd.prog 34 (relV r).toArray (relV s).toArray (decide (r = s)) := by
  refine ⟨by kernel_rfl, fun w => ?_⟩
  have hu := tab_undP tab_ok (t := 34) (d := .struct #[{ name := "N", type := 3, offset := 0, embedded := false, tag := "", pkgPath := "", byteOffset := 0 }, { name := "Rows", type := 32, offset := 1, embedded := false, tag := "", pkgPath := "", byteOffset := 8 }]) rfl
  have hf : Tryd.prog.fieldsOf 34 = #[{ name := "N", type := 3, offset := 0, embedded := false, tag := "", pkgPath := "", byteOffset := 0 }, { name := "Rows", type := 32, offset := 1, embedded := false, tag := "", pkgPath := "", byteOffset := 8 }] := by simp [Program.fieldsOf, hu]
  rw [run_equalIn_struct w 9999 _ _ _ (by rw [hf]; exact hu) (by kernel_rfl), hf]
  have hi := tab_undP tab_ok (t := 3) (d := .int .i64) rfl
  have he : (Op.equalIn 9999 3 (.int .i64 r.n) (.int .i64 s.n)).run Tryd.prog w = .ok (r.n == s.n) w := run_equalIn_int w 9998 _ _ _ _ _ hi
  obtain ⟨b, hr, hb⟩ := eqRows r s w
  have e : decide (r = s) = ((r.n == s.n) && (b && true)) := by
    rw [Bool.eq_iff_iff, decide_eq_true_eq, Rl.ext_iff', Bool.and_true, Bool.and_eq_true, beq_iff_eq, hb]
  rw [e]
  exact eqFields_cons (by decide) (relP0 r w) (relP0 s w) he fun _ => eqFields_cons (by decide) (relP1 r w) (relP1 s w) hr fun _ => by simp [Op.eqFields]

end Go.Proofs.YtmammebifhmnhaaDoor

/-
  Events as values; lists of them in a world; short; SameEvents. Own work.
-/
namespace Go.Proofs.YtmammebifhmnhaaDoor
open Go.AM
set_option maxRecDepth 100000

/-- An event. -/
structure Ev where
  kind : Int
  thread : Int
  index : Int
  loc : Int
  locked : Bool
  deriving DecidableEq

def evV (e : Ev) : List Value := [.int .i64 e.kind, .int .i64 e.thread, .int .i64 e.index, .int .i64 e.loc, .bool e.locked]
def encEv (e : Ev) : Value := .agg (evV e).toArray

@[simp] theorem evV_len (e : Ev) : (evV e).length = 5 := rfl
@[simp] theorem intAt_k (e : Ev) : intAt (evV e) 0 = e.kind := rfl
@[simp] theorem intAt_t (e : Ev) : intAt (evV e) 1 = e.thread := rfl
@[simp] theorem intAt_i (e : Ev) : intAt (evV e) 2 = e.index := rfl
@[simp] theorem intAt_l (e : Ev) : intAt (evV e) 3 = e.loc := rfl
@[simp] theorem boolAt_l (e : Ev) : boolAt (evV e) 4 = e.locked := rfl
@[simp] theorem evV_0 (e : Ev) : (evV e)[0]? = some (.int .i64 e.kind) := rfl
@[simp] theorem evV_1 (e : Ev) : (evV e)[1]? = some (.int .i64 e.thread) := rfl
@[simp] theorem evV_2 (e : Ev) : (evV e)[2]? = some (.int .i64 e.index) := rfl
@[simp] theorem evV_3 (e : Ev) : (evV e)[3]? = some (.int .i64 e.loc) := rfl
@[simp] theorem evV_4 (e : Ev) : (evV e)[4]? = some (.bool e.locked) := rfl
theorem evV_one (e : Ev) : (∀ c ∈ evV e, c.oneCell' = true) ↔ True := iff_true_intro fun c hc => by
  simp only [evV, List.mem_cons, List.not_mem_nil, or_false] at hc
  rcases hc with rfl | rfl | rfl | rfl | rfl <;> rfl
@[simp] theorem zev : z30 = evV ⟨0, 0, 0, 0, false⟩ := rfl
@[simp] theorem splice_ev (e d : Ev) : splice (evV e) 0 (evV d) = evV d := rfl

/-- A slice of events, as it lies in a world. -/
def SeesV (w : World) (p : Option Addr) (xs : List Ev) : Prop :=
  ∀ i (h : i < xs.length), p = some (p.getD default) ∧ ∀ j x, (evV xs[i])[j]? = some x → w.cell? ((p.getD default).add (i * 5 + j)) = some x

theorem SeesV.agree {S : Nat → Prop} {w w' : World} {p : Option Addr} {xs : List Ev} (h : SeesV w p xs) (hA : Agree S w w') (hS : ∀ a, p = some a → ¬ S a.block) : SeesV w' p xs := by
  intro i hi
  obtain ⟨h1, h2⟩ := h i hi
  exact ⟨h1, fun j x hx => hA.cell (h2 j x hx) (by rw [add_block]; exact hS _ h1)⟩

theorem add_add (a : Addr) (i j : Nat) : (a.add i).add j = a.add (i + j) := by
  obtain ⟨b, o, x⟩ := a
  unfold Addr.add
  by_cases hi : i = 0
  · subst hi; simp
  · by_cases hj : j = 0
    · subst hj; simp [hi]
    · have : ¬ i + j = 0 := by omega
      simp [hi, hj, this, Nat.add_assoc]

theorem SeesV.ext {w : World} {p : Option Addr} {xs : List Ev} (h : SeesV w p xs) (i : Nat) (hi : i < xs.length) : extCells w ((p.getD default).add (i * 5)) 0 5 = evV xs[i] := by
  have h2 := (h i hi).2
  have c : ∀ j x, (evV xs[i])[j]? = some x → w.cell? (((p.getD default).add (i * 5)).add j) = some x := fun j x hx => by rw [add_add]; exact h2 j x hx
  simp only [extCells, c 0 _ (evV_0 _), c (0 + 1) _ (evV_1 _), c (0 + 1 + 1) _ (evV_2 _), c (0 + 1 + 1 + 1) _ (evV_3 _), c (0 + 1 + 1 + 1 + 1) _ (evV_4 _)]
  rfl
theorem SeesV.some {w : World} {p : Option Addr} {xs : List Ev} (h : SeesV w p xs) (i : Nat) (hi : i < xs.length) : ∀ j, j < 5 → (w.cell? (((p.getD default).add (i * 5)).add j)).isSome := by
  have h2 := (h i hi).2
  have c : ∀ j x, (evV xs[i])[j]? = Option.some x → w.cell? (((p.getD default).add (i * 5)).add j) = Option.some x := fun j x hx => by rw [add_add]; exact h2 j x hx
  intro j hj
  rcases (show j = 0 ∨ j = 1 ∨ j = 2 ∨ j = 3 ∨ j = 4 by omega) with rfl | rfl | rfl | rfl | rfl
  · rw [c 0 _ (evV_0 _)]; rfl
  · rw [c 1 _ (evV_1 _)]; rfl
  · rw [c 2 _ (evV_2 _)]; rfl
  · rw [c 3 _ (evV_3 _)]; rfl
  · rw [c 4 _ (evV_4 _)]; rfl
theorem SeesV.field {w : World} {p : Option Addr} {xs : List Ev} (h : SeesV w p xs) (i : Nat) (hi : i < xs.length) {j : Nat} {x : Value} (hx : (evV xs[i])[j]? = Option.some x) : w.cell? (((p.getD default).add (i * 5)).add j) = Option.some x := by
  rw [add_add]; exact (h i hi).2 j x hx

theorem evP0 (e : Ev) (w : World) : (part 3 (evV e).toArray 0).run Tryd.prog w = .ok (.int .i64 e.kind) w :=
  part_run tab_ok (t := 3) (vs := (evV e).toArray) (j := 0) (p := _) (x := .int .i64 e.kind) rfl (by simp) w
theorem evP1 (e : Ev) (w : World) : (part 3 (evV e).toArray 1).run Tryd.prog w = .ok (.int .i64 e.thread) w :=
  part_run tab_ok (t := 3) (vs := (evV e).toArray) (j := 1) (p := _) (x := .int .i64 e.thread) rfl (by simp) w
theorem evP2 (e : Ev) (w : World) : (part 3 (evV e).toArray 2).run Tryd.prog w = .ok (.int .i64 e.index) w :=
  part_run tab_ok (t := 3) (vs := (evV e).toArray) (j := 2) (p := _) (x := .int .i64 e.index) rfl (by simp) w
theorem evP3 (e : Ev) (w : World) : (part 3 (evV e).toArray 3).run Tryd.prog w = .ok (.int .i64 e.loc) w :=
  part_run tab_ok (t := 3) (vs := (evV e).toArray) (j := 3) (p := _) (x := .int .i64 e.loc) rfl (by simp) w
theorem evP4 (e : Ev) (w : World) : (part 4 (evV e).toArray 4).run Tryd.prog w = .ok (.bool e.locked) w :=
  part_run tab_ok (t := 4) (vs := (evV e).toArray) (j := 4) (p := _) (x := .bool e.locked) rfl (by simp) w
theorem eqEv (a b : Ev) : EqT Tryd.prog 30 (evV a).toArray (evV b).toArray (decide (a = b)) := by
  refine ⟨by kernel_rfl, fun w => ?_⟩
  have hi := tab_undP tab_ok (t := 3) (d := .int .i64) rfl
  have hb := tab_undP tab_ok (t := 4) (d := .bool) rfl
  have hu := tab_undP tab_ok (t := 30) (d := .struct #[{ name := "Kind", type := 3, offset := 0, embedded := false, tag := "", pkgPath := "", byteOffset := 0 }, { name := "Thread", type := 3, offset := 1, embedded := false, tag := "", pkgPath := "", byteOffset := 8 }, { name := "Index", type := 3, offset := 2, embedded := false, tag := "", pkgPath := "", byteOffset := 16 }, { name := "Loc", type := 3, offset := 3, embedded := false, tag := "", pkgPath := "", byteOffset := 24 }, { name := "Locked", type := 4, offset := 4, embedded := false, tag := "", pkgPath := "", byteOffset := 32 }]) rfl
  have hf : Tryd.prog.fieldsOf 30 = #[{ name := "Kind", type := 3, offset := 0, embedded := false, tag := "", pkgPath := "", byteOffset := 0 }, { name := "Thread", type := 3, offset := 1, embedded := false, tag := "", pkgPath := "", byteOffset := 8 }, { name := "Index", type := 3, offset := 2, embedded := false, tag := "", pkgPath := "", byteOffset := 16 }, { name := "Loc", type := 3, offset := 3, embedded := false, tag := "", pkgPath := "", byteOffset := 24 }, { name := "Locked", type := 4, offset := 4, embedded := false, tag := "", pkgPath := "", byteOffset := 32 }] := by simp [Program.fieldsOf, hu]
  rw [run_equalIn_struct w 9999 _ _ _ (by rw [hf]; exact hu) (by kernel_rfl), hf]
  have he : ∀ x y : Int, (Op.equalIn 9999 3 (.int .i64 x) (.int .i64 y)).run Tryd.prog w = .ok (x == y) w := fun x y => run_equalIn_int w 9998 _ _ _ _ _ hi
  have hg : ∀ x y : Bool, (Op.equalIn 9999 4 (.bool x) (.bool y)).run Tryd.prog w = .ok (x == y) w := fun x y => run_equalIn_bool w 9998 _ _ _ hb
  have e : decide (a = b) = ((a.kind == b.kind) && ((a.thread == b.thread) && ((a.index == b.index) && ((a.loc == b.loc) && ((a.locked == b.locked) && true))))) := by
    obtain ⟨a1, a2, a3, a4, a5⟩ := a
    obtain ⟨b1, b2, b3, b4, b5⟩ := b
    rw [Bool.eq_iff_iff, decide_eq_true_eq, Ev.mk.injEq]
    simp
  rw [e]
  exact eqFields_cons (by decide) (evP0 a w) (evP0 b w) (he _ _) fun _ => eqFields_cons (by decide) (evP1 a w) (evP1 b w) (he _ _) fun _ => eqFields_cons (by decide) (evP2 a w) (evP2 b w) (he _ _) fun _ =>
    eqFields_cons (by decide) (evP3 a w) (evP3 b w) (he _ _) fun _ => eqFields_cons (by decide) (evP4 a w) (evP4 b w) (hg _ _) fun _ => by simp [Op.eqFields]

def shortL (xs : List Ev) : List Ev := if xs.length > 64 then [] else xs
theorem shortL_le (xs : List Ev) : (shortL xs).length ≤ 64 := by
  unfold shortL
  split
  · simp
  · omega

/-- The short one, as a value. -/
def shortV (p : Option Addr) (c : Nat) (xs : List Ev) : Value := if xs.length > 64 then .slice none 0 0 else .slice p xs.length c

theorem short_ok (p : Option Addr) (c : Nat) (xs : List Ev) (w : World) : Gives Tryd.prog 92 [.slice p xs.length c] w (shortV p c xs) := by
  refine Gives.of_run Tryd.func92 rfl (by show 1 ≤ 7; decide) ?_
  by_cases h : xs.length > 64
  · refine RunF_sound tab_ok noX_local 100 [true] _ _ rfl ?_ ?_
    · simp; omega
    refine Run.retP tab_ok Tryd.func92 rfl trivial (fun M => ?_)
    rw [shortV, if_pos h]; rfl
  · refine RunF_sound tab_ok noX_local 100 [false] _ _ rfl ?_ ?_
    · simp; omega
    refine Run.retP tab_ok Tryd.func92 rfl trivial (fun M => ?_)
    rw [shortV, if_neg h]; rfl
theorem short_enters : Enters Tryd.prog 92 := enters_mk Tryd.func92 (by decide) rfl

theorem shortR_ok (p : Option Addr) (c : Nat) (xs : List Ev) (w : World) : Gives Tryd.prog 30 [.slice p xs.length c] w (shortV p c xs) := by
  refine Gives.of_run Tryd.func30 rfl (by show 1 ≤ 7; decide) ?_
  by_cases h : xs.length > 64
  · refine RunF_sound tab_ok noX_local 100 [true] _ _ rfl ?_ ?_
    · simp; omega
    refine Run.retP tab_ok Tryd.func30 rfl trivial (fun M => ?_)
    rw [shortV, if_pos h]; rfl
  · refine RunF_sound tab_ok noX_local 100 [false] _ _ rfl ?_ ?_
    · simp; omega
    refine Run.retP tab_ok Tryd.func30 rfl trivial (fun M => ?_)
    rw [shortV, if_neg h]; rfl
theorem shortR_enters : Enters Tryd.prog 30 := enters_mk Tryd.func30 (by decide) rfl

/-- What is short is a slice of what is short. -/
theorem short_form {w : World} {p : Option Addr} {xs : List Ev} (c : Nat) (h : SeesV w p xs) : ∃ p' c', shortV p c xs = .slice p' (shortL xs).length c' ∧ SeesV w p' (shortL xs) := by
  unfold shortV shortL
  split
  · exact ⟨none, 0, rfl, fun i hi => absurd hi (Nat.not_lt_zero _)⟩
  · exact ⟨p, c, rfl, h⟩

theorem sameEvents_ok (p q : Option Addr) (c c' : Nat) (xs ys : List Ev) (w : World) (hs : SeesV w p xs) (hs' : SeesV w q ys) (hl : xs.length ≤ maxLen) :
    Gives Tryd.prog 11 [.slice p xs.length c, .slice q ys.length c'] w (.bool (decide (xs = ys))) := by
  refine Gives.of_run Tryd.func11 rfl (by show 2 ≤ 26; decide) ?_
  by_cases h1 : xs.length = ys.length
  · refine RunF_sound tab_ok noX_local 100 [false] _ _ rfl ?_ ?_
    · simp; omega
    suffices H : ∀ (d k : Nat), k + d = xs.length → (xs = ys ↔ xs.drop k = ys.drop k) → ∀ σ, inT σ.t [(0, .v (.slice p xs.length c)), (1, .v (.slice q ys.length c')), (5, .v (.int .i64 (k : Int)))] → inT σ.h [] → Run _ _ σ by
      exact H xs.length 0 (by omega) (by simp) _ ⟨rfl, rfl, rfl, trivial⟩ trivial
    intro d
    induction d with
    | zero =>
      intro k hk hv σ ht hh
      refine Run.to ?_ ht hh (n' := 0)
      refine RunF_sound tab_ok noX_local 100 [false] _ _ rfl ?_ ?_
      · simp; omega
      · refine Run.retP tab_ok Tryd.func11 rfl trivial (fun M => ?_)
        rw [decide_eq_true (hv.2 (by rw [List.drop_eq_nil_of_le (by omega), List.drop_eq_nil_of_le (by omega)]))]; rfl
    | succ d ih =>
      intro k hk hv σ ht hh
      refine Run.to ?_ ht hh (n' := 0)
      have hk1 : k < xs.length := by omega
      have hk2 : k < ys.length := by omega
      have hkm : (k : Int) < 9223372036854775807 := by simp only [maxLen] at hl; omega
      have e1 := (hs k hk1).1
      have f1 := (hs' k hk2).1
      have e2 := hs.ext k hk1
      have f2 := hs'.ext k hk2
      have e3 := hs.some k hk1
      have f3 := hs'.some k hk2
      rw [List.drop_eq_getElem_cons hk1, List.drop_eq_getElem_cons hk2, List.cons.injEq] at hv
      refine RunF_sound tab_ok noX_local 100 [true] _ _ rfl ?_ ?_
      · simp; omega
      refine Run.drawA noX_local rfl [] [] rfl rfl trivial ?_
      refine RunOF_sound tab_ok noX_local rfl rfl 100 [] _ _ rfl ?_ ?_
      · simp only [fnC_w0, fnC_S0, Int.toNat_natCast]
        simp
        exact ⟨⟨e1, hk1⟩, e3, ⟨f1, hk2⟩, f3⟩
      refine RunO.cmp rfl rfl rfl rfl rfl rfl rfl (b := decide (xs[k] = ys[k])) (c := !(decide (xs[k] = ys[k]))) ?_ (.inr ⟨rfl, rfl⟩) ?_
      · have h := eqEv xs[k] ys[k]
        have g1 : (extCells w ((p.getD default).add (k * 5)) 0 5).toArray = (evV xs[k]).toArray := by rw [e2]
        have g2 : (extCells w ((q.getD default).add (k * 5)) 0 5).toArray = (evV ys[k]).toArray := by rw [f2]
        rw [← g1, ← g2] at h
        exact h
      refine RunO.done ?_
      by_cases c1 : xs[k] = ys[k]
      · refine RunF_sound tab_ok noX_local 100 [false] _ _ rfl ?_ ?_
        · simp [c1]
        · exact ih (k + 1) (by omega) (hv.trans ⟨fun h => h.2, fun h => ⟨c1, h⟩⟩) _ ⟨rfl, rfl, i64_eq (wrap_succ (by omega)), trivial⟩ trivial
      · refine RunF_sound tab_ok noX_local 100 [true] _ _ rfl ?_ ?_
        · simp [c1]
        · refine Run.retP tab_ok Tryd.func11 rfl trivial (fun M => ?_)
          rw [decide_eq_false (fun h => c1 (hv.1 h).1)]; rfl
  · refine RunF_sound tab_ok noX_local 100 [true] _ _ rfl ?_ ?_
    · simp; omega
    · refine Run.retP tab_ok Tryd.func11 rfl trivial (fun M => ?_)
      rw [decide_eq_false (fun h => h1 (by rw [h]))]; rfl
theorem sameEvents_enters : Enters Tryd.prog 11 := enters_mk Tryd.func11 (by decide) rfl
end Go.Proofs.YtmammebifhmnhaaDoor

/-
  The tests of events and of pairs of events. Own work; the walks of chains of tests printed by a program of our own.
-/
namespace Go.Proofs.YtmammebifhmnhaaDoor
open Go.AM
set_option maxRecDepth 100000

theorem enc5 (e : Ev) : encEv e = .agg (evV e).toArray := rfl
def memB (e : Ev) : Bool := decide (e.kind ≥ 1) && decide (e.kind ≤ 3)
def togB (a b : Ev) : Bool := decide (a.thread = b.thread) && !decide (a.thread = -1)
def wrB (e : Ev) : Bool := decide (e.kind = 1) || decide (e.kind = 2)
def rdB (e : Ev) : Bool := decide (e.kind = 3)

theorem memory_ok (e : Ev) (w : World) : Gives Tryd.prog 96 [encEv e] w (.bool (memB e)) := by
  refine Gives.of_run Tryd.func96 rfl (by show 1 ≤ 11; decide) ?_
  by_cases c : e.kind ≥ 1
  · refine RunF_sound tab_ok noX_local 100 [true] _ _ rfl ?_ ?_
    · simp [c]
    refine Run.retP tab_ok Tryd.func96 rfl trivial (fun M => ?_)
    simp [resAV, conc, memB, c]
  · refine RunF_sound tab_ok noX_local 100 [false] _ _ rfl ?_ ?_
    · simp [c]
    refine Run.retP tab_ok Tryd.func96 rfl trivial (fun M => ?_)
    simp [resAV, conc, memB, c]
theorem memory_enters : Enters Tryd.prog 96 := enters_mk Tryd.func96 (by decide) rfl

theorem together_ok (a b : Ev) (w : World) : Gives Tryd.prog 91 [encEv a, encEv b] w (.bool (togB a b)) := by
  refine Gives.of_run Tryd.func91 rfl (by show 2 ≤ 15; decide) ?_
  by_cases c : a.thread = b.thread
  · refine RunF_sound tab_ok noX_local 100 [true] _ _ rfl ?_ ?_
    · simp [c]
    refine Run.retP tab_ok Tryd.func91 rfl trivial (fun M => ?_)
    by_cases c2 : b.thread = -1 <;> simp [resAV, conc, togB, c, c2]
  · refine RunF_sound tab_ok noX_local 100 [false] _ _ rfl ?_ ?_
    · simp [c]
    refine Run.retP tab_ok Tryd.func91 rfl trivial (fun M => ?_)
    simp [resAV, conc, togB, c]
theorem together_enters : Enters Tryd.prog 91 := enters_mk Tryd.func91 (by decide) rfl

theorem isOf_ok (e : Ev) (b : Nat) (k : Int) (w : World) (hb : w.cell? ⟨b, 0, none⟩ = some (.int .i64 k)) : Gives Tryd.prog 103 [encEv e, .pointer (some ⟨b, 0, none⟩)] w (.bool (decide (e.kind = k))) := by
  refine Gives.of_run Tryd.func103 rfl (by show 2 ≤ 8; decide) ?_
  refine RunF_sound tab_ok noX_local 100 [] _ _ rfl ?_ ?_
  · simp only [fnC_w0, fnC_S0, hb]
    simp
  simp only [fnC_w0, hb]
  refine Run.retP tab_ok Tryd.func103 rfl trivial (fun M => ?_)
  by_cases c : e.kind = k <;> simp [resAV, conc, c]
theorem isOf_enters : Enters Tryd.prog 103 := enters_mk Tryd.func103 (by decide) rfl

theorem locked1_ok (e : Ev) (w : World) : Gives Tryd.prog 104 [encEv e] w (.bool e.locked) := by
  refine Gives.of_run Tryd.func104 rfl (by show 1 ≤ 5; decide) ?_
  refine RunF_sound tab_ok noX_local 100 [] _ _ rfl ?_ ?_
  · simp
  refine Run.retP tab_ok Tryd.func104 rfl trivial (fun M => ?_)
  simp [resAV, conc]
theorem locked1_enters : Enters Tryd.prog 104 := enters_mk Tryd.func104 (by decide) rfl

theorem po1_ok (i k : Int) (a b : Ev) (w : World) : Gives Tryd.prog 90 [.int .i64 i, .int .i64 k, encEv a, encEv b] w (.bool (decide (i < k) && togB a b)) := by
  refine Gives.of_run Tryd.func90 rfl (by show 4 ≤ 17; decide) ?_
  by_cases c : i < k
  · refine RunF_sound tab_ok noX_local 100 [true] _ _ rfl ?_ ?_
    · simp [c]
    refine Run.callFn noX_local rfl rfl rfl rfl rfl rfl rfl together_enters rfl (fun w' _ => together_ok a b w') ?_
    refine RunF_sound tab_ok noX_local 100 [] _ _ rfl ?_ ?_
    · simp
    refine Run.retP tab_ok Tryd.func90 rfl trivial (fun M => ?_)
    simp [resAV, conc, c]
  · refine RunF_sound tab_ok noX_local 100 [false] _ _ rfl ?_ ?_
    · simp [c]
    refine Run.retP tab_ok Tryd.func90 rfl trivial (fun M => ?_)
    simp [resAV, conc, c]
theorem po1_enters : Enters Tryd.prog 90 := enters_mk Tryd.func90 (by decide) rfl

theorem loc1_ok (i k : Int) (a b : Ev) (w : World) : Gives Tryd.prog 99 [.int .i64 i, .int .i64 k, encEv a, encEv b] w (.bool ((memB a && memB b) && decide (a.loc = b.loc))) := by
  refine Gives.of_run Tryd.func99 rfl (by show 4 ≤ 22; decide) ?_
  refine RunF_sound tab_ok noX_local 100 [] _ _ rfl ?_ ?_
  · simp
  refine Run.callFn noX_local rfl rfl rfl rfl rfl rfl rfl memory_enters rfl (fun w' _ => memory_ok a w') ?_
  by_cases c : memB a = true
  · refine RunF_sound tab_ok noX_local 100 [true] _ _ rfl ?_ ?_
    · simp [c]
    refine Run.callFn noX_local rfl rfl rfl rfl rfl rfl rfl memory_enters rfl (fun w' _ => memory_ok b w') ?_
    by_cases c2 : memB b = true
    · refine RunF_sound tab_ok noX_local 100 [true] _ _ rfl ?_ ?_
      · simp [c2]
      refine Run.retP tab_ok Tryd.func99 rfl trivial (fun M => ?_)
      by_cases c3 : a.loc = b.loc <;> simp [resAV, conc, c, c2, c3]
    · refine RunF_sound tab_ok noX_local 100 [false] _ _ rfl ?_ ?_
      · simpa using c2
      refine Run.retP tab_ok Tryd.func99 rfl trivial (fun M => ?_)
      simp [resAV, conc, c2]
  · refine RunF_sound tab_ok noX_local 100 [false] _ _ rfl ?_ ?_
    · simpa using c
    refine Run.retP tab_ok Tryd.func99 rfl trivial (fun M => ?_)
    simp [resAV, conc, c]
theorem loc1_enters : Enters Tryd.prog 99 := enters_mk Tryd.func99 (by decide) rfl

theorem int1_ok (i k : Int) (a b : Ev) (w : World) : Gives Tryd.prog 100 [.int .i64 i, .int .i64 k, encEv a, encEv b] w (.bool (togB a b)) := by
  refine Gives.of_run Tryd.func100 rfl (by show 4 ≤ 12; decide) ?_
  refine RunF_sound tab_ok noX_local 100 [] _ _ rfl ?_ ?_
  · simp
  refine Run.callFn noX_local rfl rfl rfl rfl rfl rfl rfl together_enters rfl (fun w' _ => together_ok a b w') ?_
  refine RunF_sound tab_ok noX_local 100 [] _ _ rfl ?_ ?_
  · simp
  exact Run.retP tab_ok Tryd.func100 rfl trivial (fun M => rfl)
theorem int1_enters : Enters Tryd.prog 100 := enters_mk Tryd.func100 (by decide) rfl

def rmwB (i k : Int) (a b : Ev) : Bool := ((((((decide (i < k) && togB a b) && decide (a.index = b.index)) && a.locked) && b.locked) && decide (a.kind = 3)) && (decide (b.kind = 2) || decide (b.kind = 1)))

theorem rmw1_ok (i k : Int) (a b : Ev) (w : World) : Gives Tryd.prog 102 [.int .i64 i, .int .i64 k, encEv a, encEv b] w (.bool (rmwB i k a b)) := by
  refine Gives.of_run Tryd.func102 rfl (by show 4 ≤ 47; decide) ?_
  by_cases c1 : i < k
  · refine RunF_sound tab_ok noX_local 200 [true] _ _ rfl ?_ ?_
    · simp [c1]
    refine Run.callFn noX_local rfl rfl rfl rfl rfl rfl rfl together_enters rfl (fun w' _ => together_ok a b w') ?_
    by_cases c2 : togB a b = true
    · have _ := c2
      by_cases c3 : a.index = b.index
      · have _ := c3
        by_cases c4 : a.locked = true
        · have _ := c4
          by_cases c5 : b.locked = true
          · have _ := c5
            by_cases c6 : a.kind = 3
            · have _ := c6
              by_cases c7 : b.kind = 2
              · have _ := c7
                refine RunF_sound tab_ok noX_local 200 [true, true, true, true, true, true] _ _ rfl ?_ ?_
                · simp [c2, c3, c4, c5, c6, c7]
                refine Run.retP tab_ok Tryd.func102 rfl trivial (fun M => ?_)
                simp [resAV, conc, rmwB, c1, c2, c3, c4, c5, c6, c7]
              · have _ := c7
                refine RunF_sound tab_ok noX_local 200 [true, true, true, true, true, false] _ _ rfl ?_ ?_
                · simp [c2, c3, c4, c5, c6, c7]
                refine Run.retP tab_ok Tryd.func102 rfl trivial (fun M => ?_)
                by_cases c8 : b.kind = 1 <;> simp [resAV, conc, rmwB, c1, c2, c3, c4, c5, c6, c7, c8]
            · have _ := c6
              refine RunF_sound tab_ok noX_local 200 [true, true, true, true, false] _ _ rfl ?_ ?_
              · simp [c2, c3, c4, c5, c6]
              refine Run.retP tab_ok Tryd.func102 rfl trivial (fun M => ?_)
              simp [resAV, conc, rmwB, c1, c2, c3, c4, c5, c6]
          · have _ := c5
            refine RunF_sound tab_ok noX_local 200 [true, true, true, false] _ _ rfl ?_ ?_
            · simp [c2, c3, c4, c5]
            refine Run.retP tab_ok Tryd.func102 rfl trivial (fun M => ?_)
            simp [resAV, conc, rmwB, c1, c2, c3, c4, c5]
        · have _ := c4
          refine RunF_sound tab_ok noX_local 200 [true, true, false] _ _ rfl ?_ ?_
          · simp [c2, c3, c4]
          refine Run.retP tab_ok Tryd.func102 rfl trivial (fun M => ?_)
          simp [resAV, conc, rmwB, c1, c2, c3, c4]
      · have _ := c3
        refine RunF_sound tab_ok noX_local 200 [true, false] _ _ rfl ?_ ?_
        · simp [c2, c3]
        refine Run.retP tab_ok Tryd.func102 rfl trivial (fun M => ?_)
        simp [resAV, conc, rmwB, c1, c2, c3]
    · have _ := c2
      refine RunF_sound tab_ok noX_local 200 [false] _ _ rfl ?_ ?_
      · simp [c2]
      refine Run.retP tab_ok Tryd.func102 rfl trivial (fun M => ?_)
      simp [resAV, conc, rmwB, c1, c2]
  · refine RunF_sound tab_ok noX_local 200 [false] _ _ rfl ?_ ?_
    · simp [c1]
    refine Run.retP tab_ok Tryd.func102 rfl trivial (fun M => ?_)
    simp [resAV, conc, rmwB, c1]
theorem rmw1_enters : Enters Tryd.prog 102 := enters_mk Tryd.func102 (by decide) rfl

theorem write_ok (e : Ev) (w : World) : Gives Tryd.prog 45 [encEv e] w (.bool (wrB e)) := by
  refine Gives.of_run Tryd.func45 rfl (by show 1 ≤ 11; decide) ?_
  by_cases c : e.kind = 1
  · refine RunF_sound tab_ok noX_local 100 [true] _ _ rfl ?_ ?_
    · simp [c]
    refine Run.retP tab_ok Tryd.func45 rfl trivial (fun M => ?_)
    simp [resAV, conc, wrB, c]
  · refine RunF_sound tab_ok noX_local 100 [false] _ _ rfl ?_ ?_
    · simp [c]
    refine Run.retP tab_ok Tryd.func45 rfl trivial (fun M => ?_)
    by_cases c2 : e.kind = 2 <;> simp [resAV, conc, wrB, c, c2]
theorem write_enters : Enters Tryd.prog 45 := enters_mk Tryd.func45 (by decide) rfl

theorem read_ok (e : Ev) (w : World) : Gives Tryd.prog 44 [encEv e] w (.bool (rdB e)) := by
  refine Gives.of_run Tryd.func44 rfl (by show 1 ≤ 6; decide) ?_
  refine RunF_sound tab_ok noX_local 100 [] _ _ rfl ?_ ?_
  · simp
  refine Run.retP tab_ok Tryd.func44 rfl trivial (fun M => ?_)
  by_cases c : e.kind = 3 <;> simp [resAV, conc, rdB, c]
theorem read_enters : Enters Tryd.prog 44 := enters_mk Tryd.func44 (by decide) rfl
end Go.Proofs.YtmammebifhmnhaaDoor

/-
  The sets of events: those, Of, Memory, Locked, here and in the reference. Own work.
-/
namespace Go.Proofs.YtmammebifhmnhaaDoor
open Go.AM
set_option maxRecDepth 100000

/-- The places below k at which a test holds. -/
def thoseP (T : Ev → Bool) (xs : List Ev) (k : Nat) : BitVec 64 := bitsB fun j => decide (j < k) && (match xs[j]? with | some e => T e | none => false)
def thoseL (T : Ev → Bool) (xs : List Ev) : BitVec 64 := thoseP T (shortL xs) (shortL xs).length

theorem thoseP_0 (T : Ev → Bool) (xs : List Ev) : thoseP T xs 0 = 0#64 := by
  apply BitVec.eq_of_getLsbD_eq
  intro j hj
  rw [thoseP, bitsB_get]; simp
theorem thoseP_yes (T : Ev → Bool) (xs : List Ev) (k : Nat) (hk : k < xs.length) (hk2 : k < 64) (h : T xs[k] = true) : thoseP T xs k ||| 1#64 <<< k = thoseP T xs (k + 1) := by
  apply BitVec.eq_of_getLsbD_eq
  intro j hj
  rw [BitVec.getLsbD_or, thoseP, thoseP, bitsB_get, bitsB_get, one_shl_get k j hk2]
  by_cases hjk : j = k
  · subst hjk
    rw [List.getElem?_eq_getElem hk]; simp [h, hj]
  · have : decide (j < k + 1) = decide (j < k) := decide_eq_decide.2 (by omega)
    simp [hjk, this]
theorem thoseP_no (T : Ev → Bool) (xs : List Ev) (k : Nat) (hk : k < xs.length) (h : T xs[k] = false) : thoseP T xs k = thoseP T xs (k + 1) := by
  apply BitVec.eq_of_getLsbD_eq
  intro j hj
  rw [thoseP, thoseP, bitsB_get, bitsB_get]
  by_cases hjk : j = k
  · subst hjk
    rw [List.getElem?_eq_getElem hk]; simp [h]
  · have : decide (j < k + 1) = decide (j < k) := decide_eq_decide.2 (by omega)
    simp [this]

theorem those_ok (g : FuncId) (cs : List Value) (T : Ev → Bool) (p : Option Addr) (c : Nat) (xs : List Ev) (w : World) (hs : SeesV w p xs) (hent : Enters Tryd.prog g)
    (hg : ∀ w', Agree (fun _ => False) w w' → ∀ e, Gives Tryd.prog g ([encEv e] ++ cs) w' (.bool (T e))) :
    Gives Tryd.prog 95 [.slice p xs.length c, .func (.func g) #[] cs.toArray] w (.int .u64 (un (thoseL T xs))) := by
  refine Gives.of_run Tryd.func95 rfl (by show 2 ≤ 25; decide) ?_
  refine RunF_sound tab_ok noX_local 100 [] _ _ rfl ?_ ?_
  · simp
  refine Run.callFn noX_local rfl rfl rfl rfl rfl rfl rfl short_enters rfl (fun w' _ => short_ok p c xs w') ?_
  obtain ⟨p', c', e1, hs'⟩ := short_form c hs
  have hle := shortL_le xs
  rw [e1]
  unfold thoseL
  generalize shortL xs = L at hs' hle
  refine RunF_sound tab_ok noX_local 100 [] _ _ rfl ?_ ?_
  · simp
  suffices H : ∀ (d k : Nat), k + d = L.length → ∀ σ, inT σ.t [(1, .v (.func (.func g) #[] cs.toArray)), (5, .v (.int .u64 (un (thoseP T L k)))), (9, .v (.slice p' L.length c')), (10, .v (.int .i64 (L.length : Int))), (11, .v (.int .i64 (k : Int)))] → inT σ.h [] → Run _ _ σ by
    refine H L.length 0 (by omega) _ ⟨rfl, ?_, rfl, rfl, rfl, trivial⟩ trivial
    rw [thoseP_0]; rfl
  intro d
  induction d with
  | zero =>
    intro k hk σ ht hh
    refine Run.to ?_ ht hh (n' := 0)
    refine RunF_sound tab_ok noX_local 100 [false] _ _ rfl ?_ ?_
    · simp; omega
    refine Run.retP tab_ok Tryd.func95 rfl trivial (fun M => ?_)
    rw [show L.length = k by omega]; rfl
  | succ d ih =>
    intro k hk σ ht hh
    refine Run.to ?_ ht hh (n' := 0)
    have hlt : k < L.length := by omega
    have f1 := (hs' k hlt).1
    have f2 := hs'.ext k hlt
    have f3 := hs'.some k hlt
    have f4 := evV_one L[k]
    refine RunF_sound tab_ok noX_local 100 [true] _ _ rfl ?_ ?_
    · simp only [fnC_w0, fnC_S0, Int.toNat_natCast, f2]
      simp [segsVals, f4]
      (repeat' refine And.intro ?_ ?_) <;> first | omega | exact f1
    refine Run.callFv (cs := cs) (f := g) (r := .bool (T L[k])) noX_local rfl rfl rfl rfl rfl rfl rfl hent rfl (fun w' hA => ?_) ?_
    · have := hg w' hA L[k]
      simp only [fnC_w0, Int.toNat_natCast, f2, splice, List.take_zero, List.nil_append, evV_len, zev, List.drop_length, List.append_nil, Nat.zero_add]
      exact this
    by_cases ct : T L[k] = true
    · refine RunF_sound tab_ok noX_local 100 [true] _ _ rfl ?_ ?_
      · simp [ct]
      refine ih (k + 1) (by omega) _ ⟨rfl, ?_, rfl, rfl, i64_eq (wrap_succ (by omega)), trivial⟩ trivial
      refine u64_eq ?_
      rw [shl1_un, bor_un, Int.toNat_natCast, thoseP_yes T L k hlt (by omega) ct]
    · refine RunF_sound tab_ok noX_local 100 [false] _ _ rfl ?_ ?_
      · simpa using ct
      refine ih (k + 1) (by omega) _ ⟨rfl, ?_, rfl, rfl, i64_eq (wrap_succ (by omega)), trivial⟩ trivial
      rw [← thoseP_no T L k hlt (by simpa using ct)]; rfl
theorem those_enters : Enters Tryd.prog 95 := enters_mk Tryd.func95 (by decide) rfl

theorem of_ok (p : Option Addr) (c : Nat) (xs : List Ev) (k : Int) (w : World) (hs : SeesV w p xs) : Gives Tryd.prog 73 [.slice p xs.length c, .int .i64 k] w (.int .u64 (un (thoseL (fun e => decide (e.kind = k)) xs))) := by
  refine Gives.of_run Tryd.func73 rfl (by show 2 ≤ 8; decide) ?_
  refine RunF_sound tab_ok noX_local 100 [] _ _ rfl ?_ ?_
  · simp [okCell, argsT.ofConst', Value.oneCell']
  refine Run.callM noX_local rfl rfl rfl rfl rfl rfl those_enters rfl (r := .int .u64 (un (thoseL (fun e => decide (e.kind = k)) xs))) (fun M w' hb hA => ?_) ?_
  · have hcell : w'.cell? ⟨(M 0).1, 0, none⟩ = some (.int .i64 k) := cells_of_blk (hb 0 _ rfl) 0
    exact those_ok 103 [.pointer (some ⟨(M 0).1, 0, none⟩)] _ p c xs w' (hs.agree hA (fun _ _ h => h)) isOf_enters (fun w'' hA' e => isOf_ok e (M 0).1 k w'' (hA'.cell hcell (fun h => h)))
  refine RunF_sound tab_ok noX_local 100 [] _ _ rfl ?_ ?_
  · simp
  exact Run.retP tab_ok Tryd.func73 rfl trivial (fun M => rfl)
theorem of_enters : Enters Tryd.prog 73 := enters_mk Tryd.func73 (by decide) rfl

theorem memorySet_ok (p : Option Addr) (c : Nat) (xs : List Ev) (w : World) (hs : SeesV w p xs) : Gives Tryd.prog 60 [.slice p xs.length c] w (.int .u64 (un (thoseL memB xs))) := by
  refine Gives.of_run Tryd.func60 rfl (by show 1 ≤ 5; decide) ?_
  refine RunF_sound tab_ok noX_local 100 [] _ _ rfl ?_ ?_
  · simp
  refine Run.callM noX_local rfl rfl rfl rfl rfl rfl those_enters rfl (r := .int .u64 (un (thoseL memB xs))) (fun M w' _ hA => those_ok 96 [] _ p c xs w' (hs.agree hA (fun _ _ h => h)) memory_enters (fun w'' _ e => memory_ok e w'')) ?_
  refine RunF_sound tab_ok noX_local 100 [] _ _ rfl ?_ ?_
  · simp
  exact Run.retP tab_ok Tryd.func60 rfl trivial (fun M => rfl)
theorem memorySet_enters : Enters Tryd.prog 60 := enters_mk Tryd.func60 (by decide) rfl

theorem lockedSet_ok (p : Option Addr) (c : Nat) (xs : List Ev) (w : World) (hs : SeesV w p xs) : Gives Tryd.prog 74 [.slice p xs.length c] w (.int .u64 (un (thoseL (fun e => e.locked) xs))) := by
  refine Gives.of_run Tryd.func74 rfl (by show 1 ≤ 5; decide) ?_
  refine RunF_sound tab_ok noX_local 100 [] _ _ rfl ?_ ?_
  · simp
  refine Run.callM noX_local rfl rfl rfl rfl rfl rfl those_enters rfl (r := .int .u64 (un (thoseL (fun e => e.locked) xs))) (fun M w' _ hA => those_ok 104 [] _ p c xs w' (hs.agree hA (fun _ _ h => h)) locked1_enters (fun w'' _ e => locked1_ok e w'')) ?_
  refine RunF_sound tab_ok noX_local 100 [] _ _ rfl ?_ ?_
  · simp
  exact Run.retP tab_ok Tryd.func74 rfl trivial (fun M => rfl)
theorem lockedSet_enters : Enters Tryd.prog 74 := enters_mk Tryd.func74 (by decide) rfl

/-! ### The reference's -/
theorem wrapn (k : Nat) (h : k < 9223372036854775808) : IntKind.u64.wrap (k : Int) = (k : Int) := wrap_u64 (by omega) (by omega)

theorem ofR_ok (p : Option Addr) (c : Nat) (xs : List Ev) (kd : Int) (w : World) (hs : SeesV w p xs) : Gives Tryd.prog 40 [.slice p xs.length c, .int .i64 kd] w (.int .u64 (un (thoseL (fun e => decide (e.kind = kd)) xs))) := by
  refine Gives.of_run Tryd.func40 rfl (by show 2 ≤ 28; decide) ?_
  refine RunF_sound tab_ok noX_local 100 [] _ _ rfl ?_ ?_
  · simp
  refine Run.callFn noX_local rfl rfl rfl rfl rfl rfl rfl shortR_enters rfl (fun w' _ => shortR_ok p c xs w') ?_
  obtain ⟨p', c', e1, hs'⟩ := short_form c hs
  have hle := shortL_le xs
  rw [e1]
  unfold thoseL
  generalize shortL xs = L at hs' hle
  generalize hT : (fun e : Ev => decide (e.kind = kd)) = T
  have hT' : ∀ e, T e = decide (e.kind = kd) := fun e => by rw [← hT]
  refine RunF_sound tab_ok noX_local 100 [] _ _ rfl ?_ ?_
  · simp
  suffices H : ∀ (d k : Nat), k + d = L.length → ∀ σ, inT σ.t [(0, .v (.slice p' L.length c')), (1, .v (.int .i64 kd)), (5, .v (.int .u64 (un (thoseP T L k)))), (6, .v (.int .i64 (k : Int)))] → inT σ.h [] → Run _ _ σ by
    refine H L.length 0 (by omega) _ ⟨rfl, rfl, ?_, rfl, trivial⟩ trivial
    rw [thoseP_0]; rfl
  intro d
  induction d with
  | zero =>
    intro k hk σ ht hh
    refine Run.to ?_ ht hh (n' := 0)
    refine RunF_sound tab_ok noX_local 100 [false] _ _ rfl ?_ ?_
    · simp; omega
    refine Run.retP tab_ok Tryd.func40 rfl trivial (fun M => ?_)
    rw [show L.length = k by omega]; rfl
  | succ d ih =>
    intro k hk σ ht hh
    refine Run.to ?_ ht hh (n' := 0)
    have hlt : k < L.length := by omega
    have f1 := (hs' k hlt).1
    have f2 := hs'.field k hlt (evV_0 L[k])
    by_cases ct : L[k].kind = kd
    · refine RunF_sound tab_ok noX_local 100 [true, true] _ _ rfl ?_ ?_
      · simp only [fnC_w0, fnC_S0, Int.toNat_natCast, f2]
        simp [ct, wrapn k (by omega)]
        (repeat' refine And.intro ?_ ?_) <;> first | omega | exact f1
      refine ih (k + 1) (by omega) _ ⟨rfl, rfl, ?_, i64_eq (wrap_succ (by omega)), trivial⟩ trivial
      refine u64_eq ?_
      rw [wrapn k (by omega), shl1_un, bor_un, Int.toNat_natCast, thoseP_yes T L k hlt (by omega) (by rw [hT']; simp [ct])]
    · refine RunF_sound tab_ok noX_local 100 [true, false] _ _ rfl ?_ ?_
      · simp only [fnC_w0, fnC_S0, Int.toNat_natCast, f2]
        simp [ct]
        (repeat' refine And.intro ?_ ?_) <;> first | omega | exact f1
      refine ih (k + 1) (by omega) _ ⟨rfl, rfl, ?_, i64_eq (wrap_succ (by omega)), trivial⟩ trivial
      rw [← thoseP_no T L k hlt (by rw [hT']; simp [ct])]; rfl
theorem ofR_enters : Enters Tryd.prog 40 := enters_mk Tryd.func40 (by decide) rfl

theorem thoseL_or (S T U : Ev → Bool) (h : ∀ e, U e = (S e || T e)) (xs : List Ev) : thoseL S xs ||| thoseL T xs = thoseL U xs := by
  apply BitVec.eq_of_getLsbD_eq
  intro j hj
  unfold thoseL thoseP
  rw [BitVec.getLsbD_or, bitsB_get, bitsB_get, bitsB_get]
  cases (shortL xs)[j]? with
  | none => simp
  | some e => simp only [h]; cases S e <;> cases T e <;> simp

theorem memoryR_ok (p : Option Addr) (c : Nat) (xs : List Ev) (w : World) (hs : SeesV w p xs) : Gives Tryd.prog 41 [.slice p xs.length c] w (.int .u64 (un (thoseL memB xs))) := by
  refine Gives.of_run Tryd.func41 rfl (by show 1 ≤ 11; decide) ?_
  refine RunF_sound tab_ok noX_local 100 [] _ _ rfl ?_ ?_
  · simp
  refine Run.callFn noX_local rfl rfl rfl rfl rfl rfl rfl ofR_enters rfl (fun w' hA => ofR_ok p c xs 1 w' (hs.agree hA (fun _ _ h => h))) ?_
  refine RunF_sound tab_ok noX_local 100 [] _ _ rfl ?_ ?_
  · simp
  refine Run.callFn noX_local rfl rfl rfl rfl rfl rfl rfl ofR_enters rfl (fun w' hA => ofR_ok p c xs 2 w' (hs.agree hA (fun _ _ h => h))) ?_
  refine RunF_sound tab_ok noX_local 100 [] _ _ rfl ?_ ?_
  · simp
  refine Run.callFn noX_local rfl rfl rfl rfl rfl rfl rfl ofR_enters rfl (fun w' hA => ofR_ok p c xs 3 w' (hs.agree hA (fun _ _ h => h))) ?_
  refine RunF_sound tab_ok noX_local 100 [] _ _ rfl ?_ ?_
  · simp
  refine Run.retP tab_ok Tryd.func41 rfl trivial (fun M => ?_)
  show Value.int _ _ = _
  rw [bor_un, bor_un, thoseL_or _ _ (fun e => decide (e.kind = 1) || decide (e.kind = 2)) (fun e => rfl), thoseL_or _ _ memB (fun e => ?_)]
  unfold memB
  rw [Bool.eq_iff_iff]; simp; omega
theorem memoryR_enters : Enters Tryd.prog 41 := enters_mk Tryd.func41 (by decide) rfl

theorem lockedR_ok (p : Option Addr) (c : Nat) (xs : List Ev) (w : World) (hs : SeesV w p xs) : Gives Tryd.prog 42 [.slice p xs.length c] w (.int .u64 (un (thoseL (fun e => e.locked) xs))) := by
  refine Gives.of_run Tryd.func42 rfl (by show 1 ≤ 24; decide) ?_
  refine RunF_sound tab_ok noX_local 100 [] _ _ rfl ?_ ?_
  · simp
  refine Run.callFn noX_local rfl rfl rfl rfl rfl rfl rfl shortR_enters rfl (fun w' _ => shortR_ok p c xs w') ?_
  obtain ⟨p', c', e1, hs'⟩ := short_form c hs
  have hle := shortL_le xs
  rw [e1]
  unfold thoseL
  generalize shortL xs = L at hs' hle
  generalize hT : (fun e : Ev => e.locked) = T
  have hT' : ∀ e, T e = e.locked := fun e => by rw [← hT]
  refine RunF_sound tab_ok noX_local 100 [] _ _ rfl ?_ ?_
  · simp
  suffices H : ∀ (d k : Nat), k + d = L.length → ∀ σ, inT σ.t [(0, .v (.slice p' L.length c')), (3, .v (.int .u64 (un (thoseP T L k)))), (4, .v (.int .i64 (k : Int)))] → inT σ.h [] → Run _ _ σ by
    refine H L.length 0 (by omega) _ ⟨rfl, ?_, rfl, trivial⟩ trivial
    rw [thoseP_0]; rfl
  intro d
  induction d with
  | zero =>
    intro k hk σ ht hh
    refine Run.to ?_ ht hh (n' := 0)
    refine RunF_sound tab_ok noX_local 100 [false] _ _ rfl ?_ ?_
    · simp; omega
    refine Run.retP tab_ok Tryd.func42 rfl trivial (fun M => ?_)
    rw [show L.length = k by omega]; rfl
  | succ d ih =>
    intro k hk σ ht hh
    refine Run.to ?_ ht hh (n' := 0)
    have hlt : k < L.length := by omega
    have f1 := (hs' k hlt).1
    have f2 := hs'.field k hlt (evV_4 L[k])
    by_cases ct : L[k].locked = true
    · refine RunF_sound tab_ok noX_local 100 [true, true] _ _ rfl ?_ ?_
      · simp only [fnC_w0, fnC_S0, Int.toNat_natCast, f2]
        simp [ct, wrapn k (by omega)]
        (repeat' refine And.intro ?_ ?_) <;> first | omega | exact f1
      refine ih (k + 1) (by omega) _ ⟨rfl, ?_, i64_eq (wrap_succ (by omega)), trivial⟩ trivial
      refine u64_eq ?_
      rw [wrapn k (by omega), shl1_un, bor_un, Int.toNat_natCast, thoseP_yes T L k hlt (by omega) (by rw [hT', ct])]
    · refine RunF_sound tab_ok noX_local 100 [true, false] _ _ rfl ?_ ?_
      · simp only [fnC_w0, fnC_S0, Int.toNat_natCast, f2]
        simp [ct]
        (repeat' refine And.intro ?_ ?_) <;> first | omega | exact f1
      refine ih (k + 1) (by omega) _ ⟨rfl, ?_, i64_eq (wrap_succ (by omega)), trivial⟩ trivial
      rw [← thoseP_no T L k hlt (by rw [hT']; simpa using ct)]; rfl
theorem lockedR_enters : Enters Tryd.prog 42 := enters_mk Tryd.func42 (by decide) rfl
end Go.Proofs.YtmammebifhmnhaaDoor

/-
  The relations of events: pairs, Po, Loc, Int, Ext, Rmw. Own work.
-/
namespace Go.Proofs.YtmammebifhmnhaaDoor
open Go.AM
set_option maxRecDepth 100000

/-- A test of two places of a list. -/
def atB (T : Int → Int → Ev → Ev → Bool) (xs : List Ev) (x y : Nat) : Bool := match xs[x]?, xs[y]? with | some a, some b => T x y a b | _, _ => false
theorem atB_lt {T : Int → Int → Ev → Ev → Bool} {xs : List Ev} {x y : Nat} (h : atB T xs x y = true) : x < xs.length ∧ y < xs.length := by
  unfold atB at h
  split at h
  · rename_i h1 h2
    exact ⟨(List.getElem?_eq_some_iff.1 h1).1, (List.getElem?_eq_some_iff.1 h2).1⟩
  · cases h
theorem atB_at {T : Int → Int → Ev → Ev → Bool} {xs : List Ev} {x y : Nat} (hx : x < xs.length) (hy : y < xs.length) : atB T xs x y = T x y xs[x] xs[y] := by
  unfold atB; rw [List.getElem?_eq_getElem hx, List.getElem?_eq_getElem hy]

def pairsL (T : Int → Int → Ev → Ev → Bool) (xs : List Ev) : Rl := Rl.gen ((shortL xs).length : Int) (atB T (shortL xs))

theorem pairs_ok (g : FuncId) (T : Int → Int → Ev → Ev → Bool) (p : Option Addr) (c : Nat) (xs : List Ev) (w : World) (hs : SeesV w p xs) (hent : Enters Tryd.prog g)
    (hg : ∀ w' i k a b, Gives Tryd.prog g [.int .i64 i, .int .i64 k, encEv a, encEv b] w' (.bool (T i k a b))) :
    Gives Tryd.prog 89 [.slice p xs.length c, .func (.func g) #[] #[]] w (encRel (pairsL T xs)) := by
  refine Gives.of_run Tryd.func89 rfl (by show 2 ≤ 47; decide) ?_
  refine RunF_sound tab_ok noX_local 100 [] _ _ rfl ?_ ?_
  · simp [segsVals, relV_one']
  refine Run.callFn noX_local rfl rfl rfl rfl rfl rfl rfl short_enters rfl (fun w' _ => short_ok p c xs w') ?_
  obtain ⟨p', c', e1, hs'⟩ := short_form c hs
  have hle := shortL_le xs
  rw [e1]
  unfold pairsL
  generalize shortL xs = L at hs' hle
  have hlt := @atB_lt T L
  have hat := @atB_at T L
  generalize hq : atB T L = q at hlt hat
  refine RunF_sound tab_ok noX_local 100 [] _ _ rfl ?_ ?_
  · simp [fillL, Value.cells, segsVals, relV_one', relV_tail_one, splice]
    rfl
  suffices H : ∀ (d i : Nat), i + d = L.length → ∀ σ, inT σ.t [(0, .v (.slice p' L.length c')), (1, .v (.func (.func g) #[] #[])), (4, .ptr 0 0), (5, .ptr 1 0), (15, .v (.slice p' L.length c')), (16, .v (.int .i64 (L.length : Int))), (17, .v (.int .i64 (i : Int)))] →
      inT σ.h [(0, .cells 34 [.vals 65 (relV (Rl.void 0))]), (1, .cells 34 [.vals 65 (relV (Rl.gen (L.length : Int) (Rl.seen q i 0)))])] → Run _ _ σ by
    refine H L.length 0 (by omega) _ ⟨rfl, rfl, rfl, rfl, rfl, rfl, rfl, trivial⟩ ⟨rfl, ?_, trivial⟩
    rw [Rl.seen_0]; rfl
  intro d
  induction d with
  | zero =>
    intro i hi σ ht hh
    refine Run.to ?_ ht hh (n' := 12)
    refine RunF_sound tab_ok noX_local 100 [false] _ _ rfl ?_ ?_
    · simp [segsVals, relV_one']; omega
    refine Run.retP tab_ok Tryd.func89 rfl ?_ (fun M => ?_)
    · simp
    rw [Rl.seen_all (fun x y h => by have := hlt h; omega)]; rfl
  | succ d ih =>
    intro i hi σ ht hh
    refine Run.to ?_ ht hh (n' := 12)
    have hil : i < L.length := by omega
    have f1 := (hs' i hil).1
    have f2 := hs'.ext i hil
    have f3 := hs'.some i hil
    have f4 := evV_one L[i]
    refine RunF_sound tab_ok noX_local 100 [true] _ _ rfl ?_ ?_
    · simp only [fnC_w0, fnC_S0, Int.toNat_natCast, f2]
      simp [segsVals, f4]
      (repeat' refine And.intro ?_ ?_) <;> first | omega | exact f1 | exact f3
    suffices H2 : ∀ (e k : Nat), k + e = L.length → ∀ σ, inT σ.t [(0, .v (.slice p' L.length c')), (1, .v (.func (.func g) #[] #[])), (4, .ptr 0 0), (5, .ptr 1 0), (15, .v (.slice p' L.length c')), (16, .v (.int .i64 (L.length : Int))), (17, .v (.int .i64 (i : Int))), (6, .v (.int .i64 (i : Int))), (7, .ptr 12 0), (22, .v (.slice p' L.length c')), (23, .v (.int .i64 (L.length : Int))), (24, .v (.int .i64 (k : Int)))] →
        inT σ.h [(0, .cells 34 [.vals 65 (relV (Rl.void 0))]), (1, .cells 34 [.vals 65 (relV (Rl.gen (L.length : Int) (Rl.seen q i k)))]), (12, .cells 30 [.vals 5 (evV L[i])])] → Run _ _ σ by
      refine H2 L.length 0 (by omega) _ ⟨rfl, rfl, rfl, rfl, rfl, rfl, rfl, rfl, rfl, rfl, rfl, rfl, trivial⟩ ⟨rfl, rfl, ?_, trivial⟩
      simp only [fnC_w0, Int.toNat_natCast, f2]
      rfl
    intro e
    induction e with
    | zero =>
      intro k hk σ ht hh
      refine Run.to ?_ ht hh (n' := 13)
      refine RunF_sound tab_ok noX_local 100 [false] _ _ rfl ?_ ?_
      · simp; omega
      rw [Rl.seen_row (fun x y h => by have := hlt h; omega)]
      exact ih (i + 1) (by omega) _ ⟨rfl, rfl, rfl, rfl, rfl, rfl, i64_eq (wrap_succ (by omega)), trivial⟩ ⟨rfl, rfl, trivial⟩
    | succ e ihe =>
      intro k hk σ ht hh
      refine Run.to ?_ ht hh (n' := 13)
      have hkl : k < L.length := by omega
      have g1 := (hs' k hkl).1
      have g2 := hs'.ext k hkl
      have g3 := hs'.some k hkl
      have g4 := evV_one L[k]
      have hi' : i < 64 := by omega
      have hqe : q i k = T i k L[i] L[k] := hat hil hkl
      refine RunF_sound tab_ok noX_local 100 [true] _ _ rfl ?_ ?_
      · simp only [fnC_w0, fnC_S0, Int.toNat_natCast, g2]
        simp [segsVals, g4]
        (repeat' refine And.intro ?_ ?_) <;> first | omega | exact g1 | exact g3
      refine Run.callFv (cs := []) (f := g) (r := .bool (T i k L[i] L[k])) noX_local rfl rfl rfl rfl rfl rfl rfl hent rfl (fun w' hA => ?_) ?_
      · have := hg w' i k L[i] L[k]
        simp only [fnC_w0, Int.toNat_natCast, g2, zev, splice_ev]
        exact this
      by_cases ct : T i k L[i] L[k] = true
      · refine RunF_sound tab_ok noX_local 100 [true] _ _ rfl ?_ ?_
        · simp [ct]
        refine Run.drawA noX_local rfl [3] [] rfl rfl trivial ?_
        refine RunOF_sound tab_ok noX_local rfl rfl 100 [] _ _ rfl ?_ ?_
        · simp [relV_get _ _ hi', intAt_row _ _ hi', okCell, Value.oneCell', inT, lk]; omega
        refine RunO.done ?_
        refine RunF_sound tab_ok noX_local 100 [] _ _ rfl ?_ ?_
        · simp
        refine ihe (k + 1) (by omega) _ ⟨rfl, rfl, rfl, rfl, rfl, rfl, rfl, rfl, rfl, rfl, rfl, i64_eq (wrap_succ (by omega)), trivial⟩ ⟨rfl, congrArg (fun l => some (Blk.cells 34 [.vals 65 l])) ?_, rfl, trivial⟩
        simp [intAt_row _ _ hi', shl1_un, relV_set _ _ hi', Rl.seen_yes hi' (show k < 64 by omega) (show q i k = true by rw [hqe, ct])]
      · refine RunF_sound tab_ok noX_local 100 [false] _ _ rfl ?_ ?_
        · simpa using ct
        refine ihe (k + 1) (by omega) _ ⟨rfl, rfl, rfl, rfl, rfl, rfl, rfl, rfl, rfl, rfl, rfl, i64_eq (wrap_succ (by omega)), trivial⟩ ⟨rfl, ?_, rfl, trivial⟩
        rw [← Rl.seen_no (by rw [hqe]; simpa using ct)]; rfl
theorem pairs_enters : Enters Tryd.prog 89 := enters_mk Tryd.func89 (by decide) rfl

theorem po_ok (p : Option Addr) (c : Nat) (xs : List Ev) (w : World) (hs : SeesV w p xs) : Gives Tryd.prog 56 [.slice p xs.length c] w (encRel (pairsL (fun i k a b => decide (i < k) && togB a b) xs)) := by
  refine Gives.of_run Tryd.func56 rfl (by show 1 ≤ 5; decide) ?_
  generalize hX : pairsL (fun i k a b => decide (i < k) && togB a b) xs = X
  refine RunF_sound tab_ok noX_local 100 [] _ _ rfl ?_ ?_
  · simp [segsVals, relV_one']
  refine Run.callM noX_local rfl rfl rfl rfl rfl rfl pairs_enters rfl (r := encRel X) (fun M w' _ hA => ?_) ?_
  · rw [← hX]; exact pairs_ok 90 _ p c xs w' (hs.agree hA (fun _ _ h => h)) po1_enters (fun w'' i k a b => po1_ok i k a b w'')
  refine RunF_sound tab_ok noX_local 100 [] _ _ rfl ?_ ?_
  · simp [segsVals, relV_one']
  refine Run.retP tab_ok Tryd.func56 rfl ?_ (fun M => ?_)
  · simp
  rfl
theorem po_enters : Enters Tryd.prog 56 := enters_mk Tryd.func56 (by decide) rfl

theorem loc_ok (p : Option Addr) (c : Nat) (xs : List Ev) (w : World) (hs : SeesV w p xs) : Gives Tryd.prog 63 [.slice p xs.length c] w (encRel (pairsL (fun _ _ a b => (memB a && memB b) && decide (a.loc = b.loc)) xs)) := by
  refine Gives.of_run Tryd.func63 rfl (by show 1 ≤ 5; decide) ?_
  generalize hX : pairsL (fun _ _ a b => (memB a && memB b) && decide (a.loc = b.loc)) xs = X
  refine RunF_sound tab_ok noX_local 100 [] _ _ rfl ?_ ?_
  · simp [segsVals, relV_one']
  refine Run.callM noX_local rfl rfl rfl rfl rfl rfl pairs_enters rfl (r := encRel X) (fun M w' _ hA => ?_) ?_
  · rw [← hX]; exact pairs_ok 99 _ p c xs w' (hs.agree hA (fun _ _ h => h)) loc1_enters (fun w'' i k a b => loc1_ok i k a b w'')
  refine RunF_sound tab_ok noX_local 100 [] _ _ rfl ?_ ?_
  · simp [segsVals, relV_one']
  refine Run.retP tab_ok Tryd.func63 rfl ?_ (fun M => ?_)
  · simp
  rfl
theorem loc_enters : Enters Tryd.prog 63 := enters_mk Tryd.func63 (by decide) rfl

theorem int_ok (p : Option Addr) (c : Nat) (xs : List Ev) (w : World) (hs : SeesV w p xs) : Gives Tryd.prog 65 [.slice p xs.length c] w (encRel (pairsL (fun _ _ a b => togB a b) xs)) := by
  refine Gives.of_run Tryd.func65 rfl (by show 1 ≤ 5; decide) ?_
  generalize hX : pairsL (fun _ _ a b => togB a b) xs = X
  refine RunF_sound tab_ok noX_local 100 [] _ _ rfl ?_ ?_
  · simp [segsVals, relV_one']
  refine Run.callM noX_local rfl rfl rfl rfl rfl rfl pairs_enters rfl (r := encRel X) (fun M w' _ hA => ?_) ?_
  · rw [← hX]; exact pairs_ok 100 _ p c xs w' (hs.agree hA (fun _ _ h => h)) int1_enters (fun w'' i k a b => int1_ok i k a b w'')
  refine RunF_sound tab_ok noX_local 100 [] _ _ rfl ?_ ?_
  · simp [segsVals, relV_one']
  refine Run.retP tab_ok Tryd.func65 rfl ?_ (fun M => ?_)
  · simp
  rfl
theorem int_enters : Enters Tryd.prog 65 := enters_mk Tryd.func65 (by decide) rfl

theorem rmw_ok (p : Option Addr) (c : Nat) (xs : List Ev) (w : World) (hs : SeesV w p xs) : Gives Tryd.prog 67 [.slice p xs.length c] w (encRel (pairsL rmwB xs)) := by
  refine Gives.of_run Tryd.func67 rfl (by show 1 ≤ 5; decide) ?_
  generalize hX : pairsL rmwB xs = X
  refine RunF_sound tab_ok noX_local 100 [] _ _ rfl ?_ ?_
  · simp [segsVals, relV_one']
  refine Run.callM noX_local rfl rfl rfl rfl rfl rfl pairs_enters rfl (r := encRel X) (fun M w' _ hA => ?_) ?_
  · rw [← hX]; exact pairs_ok 102 _ p c xs w' (hs.agree hA (fun _ _ h => h)) rmw1_enters (fun w'' i k a b => rmw1_ok i k a b w'')
  refine RunF_sound tab_ok noX_local 100 [] _ _ rfl ?_ ?_
  · simp [segsVals, relV_one']
  refine Run.retP tab_ok Tryd.func67 rfl ?_ (fun M => ?_)
  · simp
  rfl
theorem rmw_enters : Enters Tryd.prog 67 := enters_mk Tryd.func67 (by decide) rfl

theorem ext_ok (p : Option Addr) (c : Nat) (xs : List Ev) (w : World) (hs : SeesV w p xs) : Gives Tryd.prog 66 [.slice p xs.length c] w (encRel (notL (pairsL (fun _ _ a b => togB a b) xs))) := by
  refine Gives.of_run Tryd.func66 rfl (by show 1 ≤ 6; decide) ?_
  refine RunF_sound tab_ok noX_local 100 [] _ _ rfl ?_ ?_
  · simp [segsVals, relV_one']
  refine Run.callFn noX_local rfl rfl rfl rfl rfl rfl rfl int_enters rfl (fun w' hA => int_ok p c xs w' (hs.agree hA (fun _ _ h => h))) ?_
  generalize pairsL (fun _ _ a b => togB a b) xs = X
  refine RunF_sound tab_ok noX_local 100 [] _ _ rfl ?_ ?_
  · simp
  generalize hY : notL X = Y
  refine Run.callFn noX_local rfl rfl rfl rfl rfl rfl rfl not_enters rfl (r := encRel Y) (fun w' _ => by rw [← hY]; exact not_ok X w') ?_
  refine RunF_sound tab_ok noX_local 100 [] _ _ rfl ?_ ?_
  · simp [segsVals, relV_one']
  refine Run.retP tab_ok Tryd.func66 rfl ?_ (fun M => ?_)
  · simp
  rfl
theorem ext_enters : Enters Tryd.prog 66 := enters_mk Tryd.func66 (by decide) rfl
end Go.Proofs.YtmammebifhmnhaaDoor

/-
  The reference's relations of events: stands, Rel. Own work.
-/
namespace Go.Proofs.YtmammebifhmnhaaDoor
open Go.AM
set_option maxRecDepth 100000

def memR (a b : Ev) : Bool := (wrB a || rdB a) && (wrB b || rdB b)
/-- What the reference says of a pair. -/
def standsB (k i j : Int) (a b : Ev) : Bool :=
  if k = 1 then togB a b && decide (i < j)
  else if k = 2 then memR a b && decide (a.loc = b.loc)
  else if k = 3 then togB a b
  else if k = 4 then !togB a b
  else togB a b && (decide (a.index = b.index) && (rdB a && (wrB b && (a.locked && (b.locked && decide (i < j))))))

theorem cut {C : Ctx} {todo todo' : List Item} {σ : St} (P : St → Prop) (h : (∀ σ, P σ → Run C todo' σ) → Run C todo σ) (h' : ∀ σ, P σ → Run C todo' σ) : Run C todo σ := h h'

theorem stands_ok (p : Option Addr) (c : Nat) (xs : List Ev) (k : Int) (i j : Nat) (hi : i < xs.length) (hj : j < xs.length) (hl : xs.length ≤ 64) (w : World) (hs : SeesV w p xs) :
    Gives Tryd.prog 75 [.slice p xs.length c, .int .i64 k, .int .i64 i, .int .i64 j] w (.bool (standsB k i j xs[i] xs[j])) := by
  refine Gives.of_run Tryd.func75 rfl (by show 4 ≤ 100; decide) ?_
  have e1 := (hs i hi).1
  have e2 := hs.ext i hi
  have e3 := hs.some i hi
  have f1 := (hs j hj).1
  have f2 := hs.ext j hj
  have f3 := hs.some j hj
  generalize xs[i] = a at e2
  generalize xs[j] = b at f2
  have a4 := evV_one a
  have b4 := evV_one b
  refine RunF_sound tab_ok noX_local 100 [] _ _ rfl ?_ ?_
  · simp
  refine' cut (todo' := _) (fun σ => ∃ t h n, σ = ⟨t, h, n⟩ ∧ inT t [(1, .v (.int .i64 k)), (2, .v (.int .i64 i)), (3, .v (.int .i64 j)), (8, .tt false), (9, .ptr 0 0), (10, .ptr 1 0)] ∧ inT h [(0, .cells 30 [.vals 5 (evV a)]), (1, .cells 30 [.vals 5 (evV b)])]) ?_ ?_
  rotate_left
  · intro H
    refine Run.drawF noX_local rfl 8 9 rfl [] [] rfl rfl rfl rfl trivial ?_ ?_
    · refine RunOF_sound tab_ok noX_local rfl rfl 100 [] _ _ rfl ?_ ?_
      · simp only [fnC_w0, fnC_S0, Int.toNat_natCast, e2, f2]
        simp [segsVals, a4, b4, inT]
        (repeat' refine And.intro ?_ ?_) <;> first | omega | exact e1 | exact e3 | exact f1 | exact f3
      refine RunO.done ?_
      refine H _ ⟨_, _, _, rfl, ?_, ?_⟩
      · exact ⟨rfl, rfl, rfl, rfl, rfl, rfl, trivial⟩
      · refine ⟨?_, ?_, trivial⟩
        · simp only [fnC_w0, Int.toNat_natCast, e2]; rfl
        · simp only [fnC_w0, Int.toNat_natCast, f2]; rfl
    · refine RunOF_sound tab_ok noX_local rfl rfl 100 [] _ _ rfl ?_ ?_
      · simp only [fnC_w0, fnC_S0, Int.toNat_natCast, e2, f2]
        simp [segsVals, a4, b4, inT]
        (repeat' refine And.intro ?_ ?_) <;> first | omega | exact e1 | exact e3 | exact f1 | exact f3
      refine RunO.done ?_
      refine Run.toR [(0, 1), (1, 0)] (h' := [(0, .cells 30 [.vals 5 (evV a)]), (1, .cells 30 [.vals 5 (evV b)])]) (t' := [(1, .v (.int .i64 k)), (2, .v (.int .i64 i)), (3, .v (.int .i64 j)), (8, .tt false), (9, .ptr 0 0), (10, .ptr 1 0)]) (n' := 2) (H _ ⟨_, _, _, rfl, ⟨rfl, rfl, rfl, rfl, rfl, rfl, trivial⟩, rfl, rfl, trivial⟩) ⟨rfl, rfl, rfl, rfl, rfl, rfl, trivial⟩ ?_ rfl
      refine ⟨?_, ?_, trivial⟩
      · simp only [fnC_w0, Int.toNat_natCast, e2]; rfl
      · simp only [fnC_w0, Int.toNat_natCast, f2]; rfl
  rintro σ ⟨t, h, n, rfl, ht, hh⟩
  refine Run.to ?_ ht hh (n' := 2)
  clear ht hh e1 e2 e3 f1 f2 f3
  refine' Run.join (todo' := _) [(1, .v (.int .i64 k)), (2, .v (.int .i64 i)), (3, .v (.int .i64 j)), (8, .tt false), (9, .ptr 0 0), (10, .ptr 1 0), (11, .tt (togB a b)), (31, .v (encEv a))] [(0, .cells 30 [.vals 5 (evV a)]), (1, .cells 30 [.vals 5 (evV b)])] 2 ?_ ?_
  rotate_left
  · intro H
    by_cases c1 : a.thread = b.thread
    · refine RunF_sound tab_ok noX_local 100 [true] _ _ rfl ?_ ?_
      · simp [c1]
      refine H _ ?_ ?_
      · refine ⟨⟨_, rfl, fun M => rfl⟩, ⟨_, rfl, fun M => rfl⟩, ⟨_, rfl, fun M => rfl⟩, ⟨_, rfl, fun M => rfl⟩, ⟨_, rfl, fun M => rfl⟩, ⟨_, rfl, fun M => rfl⟩, ⟨_, rfl, fun M => ?_⟩, ⟨_, rfl, fun M => ?_⟩, trivial⟩
        · by_cases cb : b.thread = -1 <;> simp [conc, togB, c1, cb]
        · rfl
      · exact ⟨rfl, rfl, trivial⟩
    · refine RunF_sound tab_ok noX_local 100 [false] _ _ rfl ?_ ?_
      · simp [c1]
      refine H _ ?_ ?_
      · refine ⟨⟨_, rfl, fun M => rfl⟩, ⟨_, rfl, fun M => rfl⟩, ⟨_, rfl, fun M => rfl⟩, ⟨_, rfl, fun M => rfl⟩, ⟨_, rfl, fun M => rfl⟩, ⟨_, rfl, fun M => rfl⟩, ⟨_, rfl, fun M => ?_⟩, ⟨_, rfl, fun M => ?_⟩, trivial⟩
        · by_cases cb : b.thread = -1 <;> simp [conc, togB, c1, cb]
        · rfl
      · exact ⟨rfl, rfl, trivial⟩
  refine' Run.join (todo' := _) [(1, .v (.int .i64 k)), (2, .v (.int .i64 i)), (3, .v (.int .i64 j)), (8, .tt false), (9, .ptr 0 0), (10, .ptr 1 0), (11, .tt (togB a b)), (12, .tt (memR a b)), (45, .v (.int .i64 k)), (46, .v (.bool (k == 1)))] [(0, .cells 30 [.vals 5 (evV a)]), (1, .cells 30 [.vals 5 (evV b)])] 2 ?_ ?_
  rotate_left
  · intro H
    refine Run.callFn noX_local rfl rfl rfl rfl rfl rfl rfl write_enters rfl (fun w' _ => write_ok a w') ?_
    by_cases d1 : wrB a = true
    · have _ := d1
      refine RunF_sound tab_ok noX_local 100 [true] _ _ rfl ?_ ?_
      · simp [d1]
      refine Run.callFn noX_local rfl rfl rfl rfl rfl rfl rfl write_enters rfl (fun w' _ => write_ok b w') ?_
      by_cases d3 : wrB b = true
      · have _ := d3
        refine RunF_sound tab_ok noX_local 100 [true] _ _ rfl ?_ ?_
        · simp [d3]
        refine H _ ?_ ?_
        · refine ⟨⟨_, rfl, fun M => rfl⟩, ⟨_, rfl, fun M => rfl⟩, ⟨_, rfl, fun M => rfl⟩, ⟨_, rfl, fun M => rfl⟩, ⟨_, rfl, fun M => rfl⟩, ⟨_, rfl, fun M => rfl⟩, ⟨_, rfl, fun M => rfl⟩, ⟨_, rfl, fun M => ?_⟩, ⟨_, rfl, fun M => rfl⟩, ⟨_, rfl, fun M => rfl⟩, trivial⟩
          simp [conc, memR, d1, d3]
        · exact ⟨rfl, rfl, trivial⟩
      · have _ := d3
        refine RunF_sound tab_ok noX_local 100 [false] _ _ rfl ?_ ?_
        · simp [d3]
        refine Run.callFn noX_local rfl rfl rfl rfl rfl rfl rfl read_enters rfl (fun w' _ => read_ok b w') ?_
        refine RunF_sound tab_ok noX_local 100 [] _ _ rfl ?_ ?_
        · simp
        refine H _ ?_ ?_
        · refine ⟨⟨_, rfl, fun M => rfl⟩, ⟨_, rfl, fun M => rfl⟩, ⟨_, rfl, fun M => rfl⟩, ⟨_, rfl, fun M => rfl⟩, ⟨_, rfl, fun M => rfl⟩, ⟨_, rfl, fun M => rfl⟩, ⟨_, rfl, fun M => rfl⟩, ⟨_, rfl, fun M => ?_⟩, ⟨_, rfl, fun M => rfl⟩, ⟨_, rfl, fun M => rfl⟩, trivial⟩
          simp [conc, memR, d1, d3]
        · exact ⟨rfl, rfl, trivial⟩
    · have _ := d1
      refine RunF_sound tab_ok noX_local 100 [false] _ _ rfl ?_ ?_
      · simp [d1]
      refine Run.callFn noX_local rfl rfl rfl rfl rfl rfl rfl read_enters rfl (fun w' _ => read_ok a w') ?_
      by_cases d2 : rdB a = true
      · have _ := d2
        refine RunF_sound tab_ok noX_local 100 [true] _ _ rfl ?_ ?_
        · simp [d2]
        refine Run.callFn noX_local rfl rfl rfl rfl rfl rfl rfl write_enters rfl (fun w' _ => write_ok b w') ?_
        by_cases d3 : wrB b = true
        · have _ := d3
          refine RunF_sound tab_ok noX_local 100 [true] _ _ rfl ?_ ?_
          · simp [d3]
          refine H _ ?_ ?_
          · refine ⟨⟨_, rfl, fun M => rfl⟩, ⟨_, rfl, fun M => rfl⟩, ⟨_, rfl, fun M => rfl⟩, ⟨_, rfl, fun M => rfl⟩, ⟨_, rfl, fun M => rfl⟩, ⟨_, rfl, fun M => rfl⟩, ⟨_, rfl, fun M => rfl⟩, ⟨_, rfl, fun M => ?_⟩, ⟨_, rfl, fun M => rfl⟩, ⟨_, rfl, fun M => rfl⟩, trivial⟩
            simp [conc, memR, d1, d2, d3]
          · exact ⟨rfl, rfl, trivial⟩
        · have _ := d3
          refine RunF_sound tab_ok noX_local 100 [false] _ _ rfl ?_ ?_
          · simp [d3]
          refine Run.callFn noX_local rfl rfl rfl rfl rfl rfl rfl read_enters rfl (fun w' _ => read_ok b w') ?_
          refine RunF_sound tab_ok noX_local 100 [] _ _ rfl ?_ ?_
          · simp
          refine H _ ?_ ?_
          · refine ⟨⟨_, rfl, fun M => rfl⟩, ⟨_, rfl, fun M => rfl⟩, ⟨_, rfl, fun M => rfl⟩, ⟨_, rfl, fun M => rfl⟩, ⟨_, rfl, fun M => rfl⟩, ⟨_, rfl, fun M => rfl⟩, ⟨_, rfl, fun M => rfl⟩, ⟨_, rfl, fun M => ?_⟩, ⟨_, rfl, fun M => rfl⟩, ⟨_, rfl, fun M => rfl⟩, trivial⟩
            simp [conc, memR, d1, d2, d3]
          · exact ⟨rfl, rfl, trivial⟩
      · have _ := d2
        refine RunF_sound tab_ok noX_local 100 [false] _ _ rfl ?_ ?_
        · simp [d2]
        refine H _ ?_ ?_
        · refine ⟨⟨_, rfl, fun M => rfl⟩, ⟨_, rfl, fun M => rfl⟩, ⟨_, rfl, fun M => rfl⟩, ⟨_, rfl, fun M => rfl⟩, ⟨_, rfl, fun M => rfl⟩, ⟨_, rfl, fun M => rfl⟩, ⟨_, rfl, fun M => rfl⟩, ⟨_, rfl, fun M => ?_⟩, ⟨_, rfl, fun M => rfl⟩, ⟨_, rfl, fun M => rfl⟩, trivial⟩
          simp [conc, memR, d1, d2]
        · exact ⟨rfl, rfl, trivial⟩
  have hk : standsB k i j a b = standsB k i j a b := rfl
  conv at hk => rhs; unfold standsB
  generalize togB a b = T at hk
  generalize memR a b = m at hk
  rw [hk]
  clear hk
  by_cases k1 : k = 1
  · subst k1
    cases T
    · refine RunF_sound tab_ok noX_local 100 [true] _ _ rfl ?_ ?_
      · simp
      refine Run.retP tab_ok Tryd.func75 rfl trivial (fun M => ?_)
      simp [conc]
    · refine RunF_sound tab_ok noX_local 100 [true] _ _ rfl ?_ ?_
      · simp
      refine Run.retP tab_ok Tryd.func75 rfl trivial (fun M => ?_)
      simp [conc]
  by_cases k2 : k = 2
  · subst k2
    cases m
    · refine RunF_sound tab_ok noX_local 100 [false, true] _ _ rfl ?_ ?_
      · simp
      refine Run.retP tab_ok Tryd.func75 rfl trivial (fun M => ?_)
      simp [conc]
      try rfl
    · refine RunF_sound tab_ok noX_local 100 [false, true] _ _ rfl ?_ ?_
      · simp
      refine Run.retP tab_ok Tryd.func75 rfl trivial (fun M => ?_)
      simp [conc]
      try rfl
  by_cases k3 : k = 3
  · subst k3
    cases T
    · refine RunF_sound tab_ok noX_local 100 [false, false, true] _ _ rfl ?_ ?_
      · simp
      refine Run.retP tab_ok Tryd.func75 rfl trivial (fun M => ?_)
      simp [conc]
    · refine RunF_sound tab_ok noX_local 100 [false, false, true] _ _ rfl ?_ ?_
      · simp
      refine Run.retP tab_ok Tryd.func75 rfl trivial (fun M => ?_)
      simp [conc]
  by_cases k4 : k = 4
  · subst k4
    cases T
    · refine RunF_sound tab_ok noX_local 100 [false, false, false, true] _ _ rfl ?_ ?_
      · simp
      refine Run.retP tab_ok Tryd.func75 rfl trivial (fun M => ?_)
      simp [conc]
    · refine RunF_sound tab_ok noX_local 100 [false, false, false, true] _ _ rfl ?_ ?_
      · simp
      refine Run.retP tab_ok Tryd.func75 rfl trivial (fun M => ?_)
      simp [conc]
  cases T
  · refine RunF_sound tab_ok noX_local 100 [false, false, false, false] _ _ rfl ?_ ?_
    · simp [k1, k2, k3, k4]
    refine Run.retP tab_ok Tryd.func75 rfl trivial (fun M => ?_)
    simp [conc, k1, k2, k3, k4]
  by_cases x1 : a.index = b.index
  rotate_left
  · refine RunF_sound tab_ok noX_local 100 [false, false, false, false, false] _ _ rfl ?_ ?_
    · simp [k1, k2, k3, k4, x1]
    refine Run.retP tab_ok Tryd.func75 rfl trivial (fun M => ?_)
    simp [conc, k1, k2, k3, k4, x1]
  refine RunF_sound tab_ok noX_local 100 [false, false, false, false, true] _ _ rfl ?_ ?_
  · simp [k1, k2, k3, k4, x1]
  refine Run.callFn noX_local rfl rfl rfl rfl rfl rfl rfl read_enters rfl (fun w' _ => read_ok a w') ?_
  by_cases x2 : rdB a = true
  rotate_left
  · refine RunF_sound tab_ok noX_local 100 [false] _ _ rfl ?_ ?_
    · simp [x2]
    refine Run.retP tab_ok Tryd.func75 rfl trivial (fun M => ?_)
    simp [conc, k1, k2, k3, k4, x1, x2]
  refine RunF_sound tab_ok noX_local 100 [true] _ _ rfl ?_ ?_
  · simp [x2]
  refine Run.callFn noX_local rfl rfl rfl rfl rfl rfl rfl write_enters rfl (fun w' _ => write_ok b w') ?_
  by_cases x3 : wrB b = true
  rotate_left
  · refine RunF_sound tab_ok noX_local 100 [false] _ _ rfl ?_ ?_
    · simp [x3]
    refine Run.retP tab_ok Tryd.func75 rfl trivial (fun M => ?_)
    simp [conc, k1, k2, k3, k4, x1, x2, x3]
  by_cases x4 : a.locked = true
  rotate_left
  · refine RunF_sound tab_ok noX_local 100 [true, false] _ _ rfl ?_ ?_
    · simp [x3, x4]
    refine Run.retP tab_ok Tryd.func75 rfl trivial (fun M => ?_)
    simp [conc, k1, k2, k3, k4, x1, x2, x3, x4]
  by_cases x5 : b.locked = true
  rotate_left
  · refine RunF_sound tab_ok noX_local 100 [true, true, false] _ _ rfl ?_ ?_
    · simp [x3, x4, x5]
    refine Run.retP tab_ok Tryd.func75 rfl trivial (fun M => ?_)
    simp [conc, k1, k2, k3, k4, x1, x2, x3, x4, x5]
  refine RunF_sound tab_ok noX_local 100 [true, true, true] _ _ rfl ?_ ?_
  · simp [x3, x4, x5]
  refine Run.retP tab_ok Tryd.func75 rfl trivial (fun M => ?_)
  simp [conc, k1, k2, k3, k4, x1, x2, x3, x4, x5]
theorem stands_enters : Enters Tryd.prog 75 := enters_mk Tryd.func75 (by decide) rfl

def standsL (k : Int) (xs : List Ev) : Rl := pairsL (fun i j a b => standsB k i j a b) xs

theorem refRel_ok (k : Int) (p : Option Addr) (c : Nat) (xs : List Ev) (w : World) (hs : SeesV w p xs) :
    Gives Tryd.prog 31 [.slice p xs.length c, .int .i64 k] w (encRel (standsL k xs)) := by
  refine Gives.of_run Tryd.func31 rfl (by show 2 ≤ 42; decide) ?_
  refine RunF_sound tab_ok noX_local 100 [] _ _ rfl ?_ ?_
  · simp
  refine Run.callFn noX_local rfl rfl rfl rfl rfl rfl rfl shortR_enters rfl (fun w' _ => shortR_ok p c xs w') ?_
  obtain ⟨p', c', e1, hs'⟩ := short_form c hs
  have hle := shortL_le xs
  rw [e1]
  unfold standsL pairsL
  generalize shortL xs = L at hs' hle
  have hlt := @atB_lt (fun i j a b => standsB k i j a b) L
  have hat := fun x y hx hy => @atB_at (fun i j a b => standsB k i j a b) L x y hx hy
  generalize hq : atB (fun i j a b => standsB k i j a b) L = q at hlt hat
  refine RunF_sound tab_ok noX_local 100 [] _ _ rfl ?_ ?_
  · simp [fillL, Value.cells, segsVals, relV_tail_one, splice]
    rfl
  suffices H : ∀ (d i : Nat), i + d = L.length → ∀ σ, inT σ.t [(0, .v (.slice p' L.length c')), (1, .v (.int .i64 k)), (4, .ptr 0 0), (5, .ptr 1 0), (6, .v (.int .i64 (i : Int)))] →
      inT σ.h [(0, .cells 34 [.vals 65 (relV (Rl.void 0))]), (1, .cells 34 [.vals 65 (relV (Rl.gen (L.length : Int) (Rl.seen q i 0)))])] → Run _ _ σ by
    refine H L.length 0 (by omega) _ ⟨rfl, rfl, rfl, rfl, rfl, trivial⟩ ⟨rfl, ?_, trivial⟩
    rw [Rl.seen_0]; rfl
  intro d
  induction d with
  | zero =>
    intro i hi σ ht hh
    refine Run.to ?_ ht hh (n' := 12)
    refine RunF_sound tab_ok noX_local 100 [false] _ _ rfl ?_ ?_
    · simp [segsVals, relV_one']; omega
    refine Run.retP tab_ok Tryd.func31 rfl ?_ (fun M => ?_)
    · simp
    rw [Rl.seen_all (fun x y h => by have := hlt h; omega)]; rfl
  | succ d ih =>
    intro i hi σ ht hh
    refine Run.to ?_ ht hh (n' := 12)
    have hil : i < L.length := by omega
    refine RunF_sound tab_ok noX_local 100 [true] _ _ rfl ?_ ?_
    · simp; omega
    suffices H2 : ∀ (e j : Nat), j + e = L.length → ∀ σ, inT σ.t [(0, .v (.slice p' L.length c')), (1, .v (.int .i64 k)), (4, .ptr 0 0), (5, .ptr 1 0), (6, .v (.int .i64 (i : Int))), (7, .v (.int .i64 (j : Int)))] →
        inT σ.h [(0, .cells 34 [.vals 65 (relV (Rl.void 0))]), (1, .cells 34 [.vals 65 (relV (Rl.gen (L.length : Int) (Rl.seen q i j)))])] → Run _ _ σ by
      exact H2 L.length 0 (by omega) _ ⟨rfl, rfl, rfl, rfl, rfl, rfl, trivial⟩ ⟨rfl, rfl, trivial⟩
    intro e
    induction e with
    | zero =>
      intro j hj σ ht hh
      refine Run.to ?_ ht hh (n' := 13)
      refine RunF_sound tab_ok noX_local 100 [false] _ _ rfl ?_ ?_
      · simp; omega
      rw [Rl.seen_row (fun x y h => by have := hlt h; omega)]
      exact ih (i + 1) (by omega) _ ⟨rfl, rfl, rfl, rfl, i64_eq (wrap_succ (by omega)), trivial⟩ ⟨rfl, rfl, trivial⟩
    | succ e ihe =>
      intro j hj σ ht hh
      refine Run.to ?_ ht hh (n' := 13)
      have hjl : j < L.length := by omega
      have hi' : i < 64 := by omega
      have hqe : q i j = standsB k i j L[i] L[j] := hat i j hil hjl
      refine RunF_sound tab_ok noX_local 100 [true] _ _ rfl ?_ ?_
      · simp; omega
      refine Run.callFn noX_local rfl rfl rfl rfl rfl rfl rfl stands_enters rfl (r := .bool (standsB k i j L[i] L[j])) (fun w' hA => ?_) ?_
      · exact stands_ok p' c' L k i j hil hjl hle w' (hs'.agree hA (fun _ _ h => h))
      by_cases ct : standsB k i j L[i] L[j] = true
      · refine RunF_sound tab_ok noX_local 100 [true] _ _ rfl ?_ ?_
        · simp [ct, wrapn j (by omega), relV_get _ _ hi', intAt_row _ _ hi', okCell, Value.oneCell']; omega
        refine ihe (j + 1) (by omega) _ ⟨rfl, rfl, rfl, rfl, rfl, i64_eq (wrap_succ (by omega)), trivial⟩ ⟨rfl, congrArg (fun l => some (Blk.cells 34 [.vals 65 l])) ?_, trivial⟩
        simp [intAt_row _ _ hi', wrapn j (by omega), shl1_un, relV_set _ _ hi', Rl.seen_yes hi' (show j < 64 by omega) (show q i j = true by rw [hqe, ct])]
      · refine RunF_sound tab_ok noX_local 100 [false] _ _ rfl ?_ ?_
        · simpa using ct
        refine ihe (j + 1) (by omega) _ ⟨rfl, rfl, rfl, rfl, rfl, i64_eq (wrap_succ (by omega)), trivial⟩ ⟨rfl, ?_, trivial⟩
        rw [← Rl.seen_no (by rw [hqe]; simpa using ct)]; rfl
theorem refRel_enters : Enters Tryd.prog 31 := enters_mk Tryd.func31 (by decide) rfl

/-! ### What is said here and there is the same. -/
theorem pairsL_congr {T T' : Int → Int → Ev → Ev → Bool} (h : ∀ i j a b, T i j a b = T' i j a b) (xs : List Ev) : pairsL T xs = pairsL T' xs := by
  have : T = T' := by funext i j a b; exact h i j a b
  rw [this]

theorem mem_eq (e : Ev) : memB e = (wrB e || rdB e) := by
  unfold memB wrB rdB
  rw [Bool.eq_iff_iff]; simp; omega

theorem eqPo (xs : List Ev) : pairsL (fun i k a b => decide (i < k) && togB a b) xs = standsL 1 xs :=
  pairsL_congr (fun i j a b => by rw [standsB, if_pos rfl, Bool.and_comm]) xs
theorem eqLoc (xs : List Ev) : pairsL (fun _ _ a b => (memB a && memB b) && decide (a.loc = b.loc)) xs = standsL 2 xs :=
  pairsL_congr (fun i j a b => by rw [standsB, if_neg (by decide), if_pos rfl, memR, mem_eq, mem_eq]) xs
theorem eqInt (xs : List Ev) : pairsL (fun _ _ a b => togB a b) xs = standsL 3 xs :=
  pairsL_congr (fun i j a b => by rw [standsB, if_neg (by decide), if_neg (by decide), if_pos rfl]) xs
theorem eqRmw (xs : List Ev) : pairsL rmwB xs = standsL 5 xs :=
  pairsL_congr (fun i j a b => by
    rw [standsB, if_neg (by decide), if_neg (by decide), if_neg (by decide), if_neg (by decide)]
    unfold rmwB rdB wrB
    rw [Bool.eq_iff_iff]; simp; constructor
    · rintro ⟨⟨⟨⟨⟨⟨h1, h2⟩, h3⟩, h4⟩, h5⟩, h6⟩, h7⟩; exact ⟨h2, h3, h6, h7.symm, h4, h5, h1⟩
    · rintro ⟨h2, h3, h6, h7, h4, h5, h1⟩; exact ⟨⟨⟨⟨⟨⟨h1, h2⟩, h3⟩, h4⟩, h5⟩, h6⟩, h7.symm⟩) xs
end Go.Proofs.YtmammebifhmnhaaDoor

/-
  Ext here and in the reference is one. Own work.
-/
namespace Go.Proofs.YtmammebifhmnhaaDoor
open Go.AM
set_option maxRecDepth 100000

theorem gen_checkI {n : Nat} (hn : n ≤ 64) {q : Nat → Nat → Bool} (h : ∀ {x y : Nat}, q x y = true → x < n ∧ y < n) : checkI (Rl.gen (n : Int) q) = 0 := by
  have hN : (Rl.gen (n : Int) q).n = (n : Int) := Rl.n_gen _ _
  unfold checkI
  have hg : ∀ i, i < 64 → good (Rl.gen (n : Int) q) i = true := fun i hi => (good_iff _ i (by rw [hN]; omega)).2 fun b hb ⟨h1, h2⟩ => by
    rw [Rl.has_gen] at h1
    simp only [Bool.and_eq_true] at h1
    have := h h1.2
    rw [hN] at h2
    omega
  rw [if_neg (by rw [hN]; omega), if_pos hg]

theorem eqExt (xs : List Ev) : notL (pairsL (fun _ _ a b => togB a b) xs) = standsL 4 xs := by
  have hle := shortL_le xs
  unfold standsL pairsL
  generalize shortL xs = L at hle
  have hlt := @atB_lt (fun _ _ a b => togB a b) L
  have hr : rightL (Rl.gen (L.length : Int) (atB (fun _ _ a b => togB a b) L)) = Rl.gen (L.length : Int) (atB (fun _ _ a b => togB a b) L) := rightL_of _ (gen_checkI hle hlt)
  unfold notL
  rw [hr]
  apply Rl.ext_has
  · rw [n_notP]; rfl
  · intro a b ha hb
    have hN : (Rl.gen (L.length : Int) (atB (fun _ _ a b => togB a b) L)).n = (L.length : Int) := Rl.n_gen _ _
    rw [Rl.has_gen, Rl.has, notP, Rl.row_by, if_pos ha, hN]
    have hrow : ((Rl.gen (L.length : Int) (atB (fun _ _ a b => togB a b) L)).row a).getLsbD b = atB (fun _ _ a b => togB a b) L a b := by
      have := Rl.has_gen (L.length : Int) (atB (fun _ _ a b => togB a b) L) a b
      rw [Rl.has] at this
      rw [this]; simp [ha, hb]
    simp only [Int.toNat_natCast]
    by_cases h1 : a < L.length
    · rw [if_pos h1, BitVec.getLsbD_and, BitVec.getLsbD_not, mask_get _ _ (by omega), hrow]
      by_cases h2 : b < L.length
      · rw [atB_at h1 h2, atB_at h1 h2]
        simp [standsB, hb, ha, h2]
      · have : atB (fun i j a b => standsB 4 i j a b) L a b = false := by
          cases hh : atB (fun i j a b => standsB 4 i j a b) L a b with
          | false => rfl
          | true => exact absurd (atB_lt hh).2 h2
        rw [this]; simp [h2]
    · rw [if_neg h1, hrow]
      have h3 : ∀ T, atB T L a b = false := fun T => by
        cases hh : atB T L a b with
        | false => rfl
        | true => exact absurd (atB_lt hh).1 h1
      rw [h3, h3]; simp

end Go.Proofs.YtmammebifhmnhaaDoor

/-
  Relations row by row: On, Edges, two, Minus, Inverse, Compose: taken over from the texts of layer 2 by a program of our own (tools/closure.py). Own work.
-/
namespace Go.AM
/-- All pairs from one set to another. -/
def crossL (n : Int) (from_ to : BitVec 64) : Rl :=
  if n < 0 ∨ n > 64 then Rl.void 0 else Rl.by_ n fun i => if (i : Int) < n ∧ from_.getLsbD i then to &&& mask n else 0#64

/-- Its beginning. -/
def crossP (n : Int) (from_ to : BitVec 64) (k : Nat) : Rl := Rl.by_ n fun i => if i < k ∧ from_.getLsbD i then to &&& mask n else 0#64

theorem crossP_end {n : Int} {from_ to : BitVec 64} {k : Nat} (h0 : ¬ n < 0) (h1 : ¬ n > 64) (h : (k : Int) = n) : crossP n from_ to k = crossL n from_ to := by
  rw [crossL, if_neg (by omega), crossP]
  exact Rl.by_congr fun i _ => by
    have : (i < k ∧ from_.getLsbD i = true) ↔ ((i : Int) < n ∧ from_.getLsbD i = true) := by
      constructor <;> rintro ⟨h2, h3⟩ <;> exact ⟨by omega, h3⟩
    simp only [this]

theorem crossP_yes {n : Int} {from_ to : BitVec 64} {k : Nat} (h : from_.getLsbD k = true) : (crossP n from_ to k).setRow k (to &&& mask n) = crossP n from_ to (k + 1) := by
  rw [crossP, Rl.set_by, crossP]
  exact Rl.by_congr fun i _ => by
    by_cases e : k = i
    · subst e; simp [h]
    · have : (i < k + 1) ↔ i < k := by omega
      simp only [this, e, if_false]

theorem crossP_no {n : Int} {from_ to : BitVec 64} {k : Nat} (h : ¬ from_.getLsbD k = true) : crossP n from_ to k = crossP n from_ to (k + 1) := by
  rw [crossP, crossP]
  exact Rl.by_congr fun i _ => by
    by_cases e : k = i
    · subst e; simp [h]
    · have : (i < k + 1) ↔ i < k := by omega
      simp only [this]

theorem crossP_0 (n : Int) (from_ to : BitVec 64) : crossP n from_ to 0 = Rl.void n := by
  rw [crossP, Rl.void_by]
  exact Rl.by_congr fun i _ => by simp

end Go.AM

namespace Go.Proofs.YtmammebifhmnhaaDoor
open Go.AM
set_option maxRecDepth 100000

theorem cross_ok (n : Int) (x y : BitVec 64) (w : World) : Gives Tryd.prog 84 [.int .i64 n, .int .u64 (un x), .int .u64 (un y)] w (encRel (crossL n x y)) := by
  refine Gives.of_run Tryd.func84 rfl (by show 3 ≤ 36; decide) ?_
  by_cases h1 : n < 0
  · refine RunF_sound tab_ok noX_local 100 [true, true] _ _ rfl ?_ ?_
    · simp [h1, fillL, Value.cells, segsVals, relV_one']
    · refine Run.retP tab_ok Tryd.func84 rfl ?_ (fun M => ?_)
      · simp [fillL, Value.cells]
      rw [crossL, if_pos (.inl h1)]; rfl
  by_cases h2 : n > 64
  · refine RunF_sound tab_ok noX_local 100 [false, true] _ _ rfl ?_ ?_
    · simp [fillL, Value.cells, segsVals, relV_one']; omega
    · refine Run.retP tab_ok Tryd.func84 rfl ?_ (fun M => ?_)
      · simp [fillL, Value.cells]
      rw [crossL, if_pos (.inr h2)]; rfl
  refine RunF_sound tab_ok noX_local 100 [false, false] _ _ rfl ?_ ?_
  · simp [fillL, Value.cells, segsVals, relV_one']; omega
  suffices H : ∀ (d k : Nat), (k : Int) + d = n → ∀ σ, inT σ.t [(0, .v (.int .i64 n)), (1, .v (.int .u64 (un x))), (2, .v (.int .u64 (un y))), (6, .ptr 0 0), (7, .ptr 1 0), (18, .v (.int .i64 n)), (19, .v (.int .i64 (k : Int)))] →
      inT σ.h [(0, .cells 34 [.vals 65 (relV (Rl.void 0))]), (1, .cells 34 [.vals 65 (relV (crossP n x y k))])] → Run _ _ σ by
    refine H n.toNat 0 (by omega) _ ⟨rfl, rfl, rfl, rfl, rfl, rfl, rfl, trivial⟩ ⟨rfl, ?_, trivial⟩
    rw [crossP_0]
    rfl
  intro d
  induction d with
  | zero =>
    intro k hk σ ht hh
    refine Run.to ?_ ht hh (n' := 2)
    refine RunF_sound tab_ok noX_local 100 [false] _ _ rfl ?_ ?_
    · simp [relV_one', segsVals]; omega
    · refine Run.retP tab_ok Tryd.func84 rfl ?_ (fun M => ?_)
      · simp
      rw [← crossP_end h1 h2 (k := k) (by omega)]; rfl
  | succ d ih =>
    intro k hk σ ht hh
    refine Run.to ?_ ht hh (n' := 2)
    have hk' : k < 64 := by omega
    by_cases c : x.getLsbD k = true
    · have c' := (bit_iff x k).2 c
      refine RunF_sound tab_ok noX_local 100 [true, true] _ _ rfl ?_ ?_
      · simp [band1_un, c']; omega
      refine Run.callFn noX_local rfl rfl rfl rfl rfl rfl rfl whole_enters rfl (fun w' _ => whole_ok n w' (by omega)) ?_
      refine RunF_sound tab_ok noX_local 100 [] _ _ rfl ?_ ?_
      · simp [okCell, Value.oneCell']; omega
      refine ih (k + 1) (by omega) _ ⟨rfl, rfl, rfl, rfl, rfl, rfl, i64_eq (wrap_succ (by omega)), trivial⟩ ⟨rfl, congrArg (fun l => some (Blk.cells 34 [.vals 65 l])) ?_, trivial⟩
      rw [band_un]
      simp [relV_set _ _ hk', crossP_yes c]
    · have c' : ¬ (x >>> k &&& 1#64) = 1#64 := fun h => c ((bit_iff x k).1 h)
      refine RunF_sound tab_ok noX_local 100 [true, false] _ _ rfl ?_ ?_
      · simp [band1_un, c']; omega
      exact ih (k + 1) (by omega) _ ⟨rfl, rfl, rfl, rfl, rfl, rfl, i64_eq (wrap_succ (by omega)), trivial⟩ ⟨rfl, by rw [← crossP_no c]; rfl, trivial⟩

theorem cross_enters : Enters Tryd.prog 84 := enters_mk Tryd.func84 (by decide) rfl

/-- Each number of a set to itself. -/
def onP (n : Int) (s : BitVec 64) (k : Nat) : Rl := Rl.by_ n fun i => if (i : Int) < n ∧ s.getLsbD i then (if i < k then 1#64 <<< i else s &&& mask n) else 0#64

def onL (n : Int) (s : BitVec 64) : Rl := if n < 0 ∨ n > 64 then Rl.void 0 else Rl.by_ n fun i => if (i : Int) < n ∧ s.getLsbD i then 1#64 <<< i else 0#64

theorem onP_0 {n : Int} {s : BitVec 64} (h0 : ¬ n < 0) (h1 : ¬ n > 64) : crossL n s s = onP n s 0 := by
  rw [crossL, if_neg (by omega), onP]
  exact Rl.by_congr fun i _ => by simp

theorem onP_end {n : Int} {s : BitVec 64} {k : Nat} (h0 : ¬ n < 0) (h1 : ¬ n > 64) (h : (k : Int) = n) : onP n s k = onL n s := by
  rw [onL, if_neg (by omega), onP]
  refine Rl.by_congr fun i _ => ?_
  by_cases c : (i : Int) < n ∧ s.getLsbD i = true
  · rw [if_pos c, if_pos c, if_pos (by omega)]
  · rw [if_neg c, if_neg c]

theorem and_bit (x : BitVec 64) (i : Nat) (h : i < 64) (hx : x.getLsbD i = true) : x &&& 1#64 <<< i = 1#64 <<< i := by
  apply BitVec.eq_of_getLsbD_eq
  intro j hj
  simp only [BitVec.getLsbD_and, BitVec.getLsbD_shiftLeft, BitVec.getLsbD_one]
  by_cases e : j = i
  · subst e; simp [hx]
  · by_cases hlt : j < i
    · simp [hlt]
    · have : ¬ (j - i = 0) := by omega
      simp [this]

theorem onP_row {n : Int} {s : BitVec 64} {k : Nat} (hk : k < 64) : (onP n s k).row k = if (k : Int) < n ∧ s.getLsbD k then s &&& mask n else 0#64 := by
  rw [onP, Rl.row_by, if_pos hk]
  simp

theorem onP_step {n : Int} {s : BitVec 64} {k : Nat} (hk : k < 64) (h0 : (k : Int) < n) : (onP n s k).setRow k ((onP n s k).row k &&& 1#64 <<< k) = onP n s (k + 1) := by
  rw [onP_row hk, onP, Rl.set_by, onP]
  refine Rl.by_congr fun i hi => ?_
  by_cases e : k = i
  · subst e
    by_cases c : s.getLsbD k = true
    · rw [if_pos rfl, if_pos ⟨h0, c⟩, if_pos ⟨h0, c⟩, if_pos (Nat.lt_succ_self _)]
      refine and_bit _ _ hk ?_
      rw [BitVec.getLsbD_and, c, mask_get n k (by omega)]
      simp; omega
    · simp [c]
  · have : (i < k + 1) ↔ i < k := by omega
    simp only [this, e, if_false]

theorem crossL_bad {n : Int} {x y : BitVec 64} (h : n < 0 ∨ n > 64) : crossL n x y = Rl.void 0 := by rw [crossL, if_pos h]

theorem on_ok (n : Int) (x : BitVec 64) (w : World) : Gives Tryd.prog 69 [.int .i64 n, .int .u64 (un x)] w (encRel (onL n x)) := by
  refine Gives.of_run Tryd.func69 rfl (by show 2 ≤ 27; decide) ?_
  refine RunF_sound tab_ok noX_local 100 [] _ _ rfl ?_ ?_
  · simp
  refine Run.callFn noX_local rfl rfl rfl rfl rfl rfl rfl cross_enters rfl (fun w' _ => cross_ok n x x w') ?_
  by_cases hb : n < 0 ∨ n > 64
  · rw [crossL_bad hb]
    refine RunF_sound tab_ok noX_local 100 [] _ _ rfl ?_ ?_
    · simp [segsVals, relV_one']
    refine RunF_sound tab_ok noX_local 100 [false] _ _ rfl ?_ ?_
    · simp [segsVals, relV_one', Rl.void]
    · refine Run.retP tab_ok Tryd.func69 rfl ?_ (fun M => ?_)
      · simp
      rw [onL, if_pos hb]; rfl
  have h1 : ¬ n < 0 := by omega
  have h2 : ¬ n > 64 := by omega
  rw [onP_0 h1 h2]
  refine RunF_sound tab_ok noX_local 100 [] _ _ rfl ?_ ?_
  · simp [segsVals, relV_one']
  suffices H : ∀ (d k : Nat), (k : Int) + d = n → ∀ σ, inT σ.t [(4, .ptr 0 0), (5, .ptr 1 0), (12, .v (.int .i64 n)), (13, .v (.int .i64 (k : Int)))] →
      inT σ.h [(0, .cells 34 [.vals 65 (relV (Rl.void 0))]), (1, .cells 34 [.vals 65 (relV (onP n x k))])] → Run _ _ σ by
    exact H n.toNat 0 (by omega) _ ⟨rfl, rfl, rfl, rfl, trivial⟩ ⟨rfl, rfl, trivial⟩
  intro d
  induction d with
  | zero =>
    intro k hk σ ht hh
    refine Run.to ?_ ht hh (n' := 2)
    refine RunF_sound tab_ok noX_local 100 [false] _ _ rfl ?_ ?_
    · simp [relV_one', segsVals]; omega
    · refine Run.retP tab_ok Tryd.func69 rfl ?_ (fun M => ?_)
      · simp
      rw [← onP_end h1 h2 (k := k) (by omega)]; rfl
  | succ d ih =>
    intro k hk σ ht hh
    refine Run.to ?_ ht hh (n' := 2)
    have hk' : k < 64 := by omega
    refine RunF_sound tab_ok noX_local 100 [true] _ _ rfl ?_ ?_
    · simp; omega
    refine Run.drawA noX_local rfl [3] [] rfl rfl trivial ?_
    refine RunOF_sound tab_ok noX_local rfl rfl 100 [] _ _ rfl ?_ ?_
    · simp [relV_get _ _ hk', intAt_row _ _ hk', okCell, Value.oneCell', inT]; omega
    refine RunO.done ?_
    refine RunF_sound tab_ok noX_local 100 [] _ _ rfl ?_ ?_
    · simp
    refine ih (k + 1) (by omega) _ ⟨rfl, rfl, rfl, i64_eq (wrap_succ (by omega)), trivial⟩ ⟨rfl, congrArg (fun l => some (Blk.cells 34 [.vals 65 l])) ?_, trivial⟩
    simp [intAt_row _ _ hk', shl1_un, relV_set _ _ hk', onP_step hk' (show (k : Int) < n by omega)]

theorem on_enters : Enters Tryd.prog 69 := enters_mk Tryd.func69 (by decide) rfl

/-- A slice of pairs, as it lies in a world. -/
def SeesE (w : World) (p : Option Addr) (xs : List (Int × Int)) : Prop :=
  ∀ i (h : i < xs.length), p = some (p.getD default) ∧ extCells w ((p.getD default).add (i * 2)) 0 2 = [.int .i64 xs[i].1, .int .i64 xs[i].2] ∧ ∀ j, j < 2 → (w.cell? (((p.getD default).add (i * 2)).add j)).isSome

theorem SeesE.agree {S : Nat → Prop} {w w' : World} {p : Option Addr} {xs : List (Int × Int)} (h : SeesE w p xs) (hA : Agree S w w') (hS : ∀ a, p = some a → ¬ S a.block) : SeesE w' p xs := by
  intro i hi
  obtain ⟨h1, h2, h3⟩ := h i hi
  have hb : ∀ j, w'.cell? (((p.getD default).add (i * 2)).add j) = w.cell? (((p.getD default).add (i * 2)).add j) ∨ w.cell? (((p.getD default).add (i * 2)).add j) = none := by
    intro j
    cases hc : w.cell? (((p.getD default).add (i * 2)).add j) with
    | none => exact .inr rfl
    | some x => exact .inl (hA.cell hc (by rw [add_block, add_block]; exact hS _ h1))
  have hs : ∀ j, j < 2 → w'.cell? (((p.getD default).add (i * 2)).add j) = w.cell? (((p.getD default).add (i * 2)).add j) := by
    intro j hj
    rcases hb j with h | h
    · exact h
    · have := h3 j hj; rw [h] at this; cases this
  refine ⟨h1, ?_, fun j hj => by rw [hs j hj]; exact h3 j hj⟩
  rw [← h2]
  simp only [extCells, hs 0 (by omega), hs (0 + 1) (by omega)]

@[simp] theorem intAt_p0 (a b : Int) : intAt [.int .i64 a, .int .i64 b] 0 = a := rfl

@[simp] theorem intAt_p1 (a b : Int) : intAt [.int .i64 a, .int .i64 b] 1 = b := rfl

@[simp] theorem one_int (k : IntKind) (n : Int) : (Value.int k n).oneCell' = true := rfl

@[simp] theorem zedge : z144 = [.int .i64 0, .int .i64 0] := rfl

/-- The table of math/bits as its initialiser lays it. -/
def TabAt (w : World) : Prop := ∀ j, j < 64 → w.cell? ⟨0, j, none⟩ = some (.int .u8 ((Go.Lib.deBruijn64tab.getD j 0 : Nat) : Int))

theorem TabAt.agree {S : Nat → Prop} {w w' : World} (h : TabAt w) (hA : Agree S w w') (hS : ¬ S 0) : TabAt w' := fun j hj => hA.cell (h j hj) hS

def tzI (x : BitVec 64) : Int := if x = 0#64 then 64 else (tz x : Int)

theorem neg_un (x : BitVec 64) : IntKind.u64.wrap (0 - un x) = un (-x) := by
  have := sub_un 0#64 x
  rw [show un 0#64 - un x = 0 - un x by simp [un]] at this
  rw [this]; simp

theorem low_bit (x : BitVec 64) (h : x ≠ 0#64) : x &&& -x = 1#64 <<< tz x := by
  have h0 : x.toNat ≠ 0 := fun e => h (BitVec.eq_of_toNat_eq (by simpa using e))
  obtain ⟨h1, h2⟩ := Go.Lib.lowest_bit 64 x.toNat h0 x.isLt
  have hk := tz_lt x h
  apply BitVec.eq_of_toNat_eq
  rw [BitVec.toNat_and, BitVec.toNat_neg, BitVec.toNat_shiftLeft]
  have h3 : (1#64).toNat = 1 := rfl
  rw [h3, Nat.shiftLeft_eq, Nat.one_mul, Nat.mod_eq_of_lt (show 2 ^ 64 - x.toNat < 2 ^ 64 by omega), h1]
  show 2 ^ tz x = _
  rw [Nat.mod_eq_of_lt (Nat.pow_lt_pow_right (by decide) hk)]

theorem tz_key (x : BitVec 64) (h : x ≠ 0#64) : ∃ idx : Nat, idx < 64 ∧ Go.Lib.deBruijn64tab.getD idx 0 = tz x ∧
    shrI .u64 (IntKind.u64.wrap (band .u64 (un x) (IntKind.u64.wrap (0 - un x)) * 285870213051353865)) 58 = (idx : Int) := by
  have hk := tz_lt x h
  obtain ⟨hi, htab⟩ := Go.Lib.deBruijn64_at (tz x) hk
  refine ⟨_, hi, htab, ?_⟩
  rw [neg_un, band_un, low_bit x h, show (285870213051353865 : Int) = un 285870213051353865#64 from rfl, mul_un, shr_un]
  unfold un
  rw [BitVec.toNat_ushiftRight, Nat.shiftRight_eq_div_pow, BitVec.toNat_mul, BitVec.toNat_shiftLeft, Nat.shiftLeft_eq]
  simp only [BitVec.toNat_ofNat, Nat.reducePow, Nat.reduceMod, Nat.one_mul, show Int.toNat 58 = 58 from rfl]
  have e : 2 ^ tz x % 18446744073709551616 = 2 ^ tz x := Nat.mod_eq_of_lt (by have := Nat.pow_lt_pow_right (a := 2) (by decide) hk; simpa using this)
  rw [e]

theorem tz_ok0 (w : World) : Gives Tryd.prog 80 [.int .u64 (un 0#64)] w (.int .i64 64) := by
  refine Gives.of_run Tryd.func80 rfl (by show 1 ≤ 14; decide) ?_
  refine RunF_sound tab_ok noX_local 100 [true] _ _ rfl ?_ ?_
  · simp [un]
  · exact Run.retP tab_ok Tryd.func80 rfl trivial (fun M => rfl)

theorem addr_idx (idx : Nat) : (⟨0, 0, none⟩ : Addr).add ((idx : Int).toNat * 1) = ⟨0, idx, none⟩ := by rw [add_lit']; simp

theorem tz_okp (y : Int) (idx : Nat) (k : Nat) (hy : y ≠ 0) (hi : idx < 64) (hk : k < 64) (w : World) (hc : w.cell? ⟨0, idx, none⟩ = some (.int .u8 (k : Int)))
    (key : shrI .u64 (IntKind.u64.wrap (band .u64 y (IntKind.u64.wrap (0 - y)) * 285870213051353865)) 58 = (idx : Int)) :
    Gives Tryd.prog 80 [.int .u64 y] w (.int .i64 (k : Int)) := by
  refine Gives.of_run Tryd.func80 rfl (by show 1 ≤ 14; decide) ?_
  refine RunF_sound tab_ok noX_local 100 [false] _ _ rfl ?_ ?_
  · rw [key, addr_idx, fnC_w0, hc]
    simp [hy]
    omega
  · rw [key, addr_idx, fnC_w0, hc]
    refine Run.retP tab_ok Tryd.func80 rfl trivial (fun M => ?_)
    simp only []
    rw [wrap_i64 (by omega) (by omega)]
    rfl

theorem tz_ok (x : BitVec 64) (w : World) (hT : TabAt w) : Gives Tryd.prog 80 [.int .u64 (un x)] w (.int .i64 (tzI x)) := by
  by_cases h : x = 0#64
  · subst h
    exact tz_ok0 w
  · obtain ⟨idx, hi, htab, key⟩ := tz_key x h
    have hc := hT idx hi
    rw [htab] at hc
    have := tz_okp (un x) idx (tz x) (by simpa using h) hi (tz_lt x h) w hc key
    rw [tzI, if_neg h]; exact this

theorem tz_enters : Enters Tryd.prog 80 := enters_mk Tryd.func80 (by decide) rfl

/-- The pairs from a number on. -/
def restL (r : Rl) : Nat → Nat → List (Int × Int)
  | _, 0 => []
  | i, d + 1 => (bitsL (r.row i)).map (fun b : Nat => ((i : Int), (b : Int))) ++ restL r (i + 1) d

/-- The pairs of a right relation, in order. -/
def edgesL (r : Rl) : List (Int × Int) := restL r 0 r.n.toNat

/-- A relation that lies whole in a block. -/
def RelAt (w : World) (b : Nat) (r : Rl) : Prop := ∀ q x, (relV r)[q]? = some x → w.cell? ⟨b, q, none⟩ = some x

def encEd (e : Int × Int) : List Value := [.agg #[.int .i64 e.1, .int .i64 e.2]]

/-- What an iterator over pairs hands over. -/
def encEs (l : List (Int × Int)) : List (List Value) := l.map encEd

/-- The iterator's blocks: the table's, the relation's. -/
def edgesK (b : Nat) : Nat → Prop := fun k => k = 0 ∨ k = b

theorem RelAt.agree {S : Nat → Prop} {w w' : World} {b : Nat} {r : Rl} (h : RelAt w b r) (hA : Agree S w w') (hS : ¬ S b) : RelAt w' b r := fun q x hq => hA.cell (h q x hq) hS

theorem bits_restL (r : Rl) (i d : Nat) (y : BitVec 64) (hy : y ≠ 0#64) (tail : List (Int × Int)) :
    (bitsL y).map (fun b : Nat => ((i : Int), (b : Int))) ++ tail = ((i : Int), (tz y : Int)) :: ((bitsL (dropLow y)).map (fun b : Nat => ((i : Int), (b : Int))) ++ tail) := by
  rw [bitsL_cons y hy]; rfl

theorem edges_iter (r : Rl) (hn : 0 ≤ r.n ∧ r.n ≤ 64) (b : Nat) (w0 : World) (hb : RelAt w0 b r) (hT : TabAt w0) :
    Iter Tryd.prog 116 [.pointer (some ⟨b, 0, none⟩)] (edgesK b) w0 (encEs (edgesL r)) := by
  refine Iter.of_run Tryd.func116 rfl (by show 2 ≤ 28; decide) ?_
  intro y J Js w fp hJ hJs hy hag hfp R hR
  have hbw : RelAt w b r := hb.agree hag (fun h => h (.inr rfl))
  have hTw : TabAt w := hT.agree hag (fun h => h (.inl rfl))
  have hf0 : ¬ fp 0 := fun h => hfp 0 h (.inl rfl)
  have hfb : ¬ fp b := fun h => hfp b h (.inr rfl)
  have c0 : w.cell? ⟨b, 0, none⟩ = some (.int .i64 r.n) := hbw 0 _ rfl
  have hres : (Tryd.f116).results = #[] := rfl
  refine RunF_sound tab_ok (hJ []) 100 [] _ _ rfl ?_ ?_
  · simp only [fnC_w0, fnC_S0, add_lit', Nat.zero_add, c0]
    simp [hfb]
  simp only [fnC_w0, add_lit', Nat.zero_add, c0]
  -- the outer loop
  suffices H : ∀ (d i : Nat) (pre : List (List Value)), (i : Int) + d = r.n → pre ++ encEs (restL r i d) = encEs (edgesL r) →
      ∀ σ, inT σ.t [(0, .v y), (1, .v (.pointer (some ⟨b, 0, none⟩))), (6, .v (.int .i64 r.n)), (7, .v (.int .i64 (i : Int)))] → inT σ.h [] →
        Run (fnC Tryd.prog 116 (Tryd.f116).ntmps w fp (J pre) R) _ σ by
    exact H r.n.toNat 0 [] (by omega) rfl _ ⟨rfl, rfl, rfl, rfl, trivial⟩ trivial
  intro d
  induction d with
  | zero =>
    intro i pre hi hp σ ht hh
    refine Run.to ?_ ht hh (n' := 0)
    refine RunF_sound tab_ok (hJ pre) 100 [false] _ _ rfl ?_ ?_
    · simp; omega
    · refine Run.finI Tryd.func116 hres fun v w' fp' hg hX => hR v w' fp' pre hg (.inl ⟨?_, hX⟩)
      simpa [restL, encEs] using hp
  | succ d ih =>
    intro i pre hi hp σ ht hh
    refine Run.to ?_ ht hh (n' := 0)
    have hi' : i < 64 := by omega
    have c1 : w.cell? ⟨b, 1 + i, none⟩ = some (.int .u64 (un (r.row i))) := hbw _ _ (relV_get r i hi')
    refine RunF_sound tab_ok (hJ pre) 100 [true] _ _ rfl ?_ ?_
    · simp only [fnC_w0, fnC_S0, add_lit', Nat.zero_add, Int.toNat_natCast, Nat.mul_one, c1]
      simp [hfb]; omega
    simp only [fnC_w0, add_lit', Nat.zero_add, Int.toNat_natCast, Nat.mul_one, c1]
    -- the inner loop
    suffices H2 : ∀ (m : Nat) (x : BitVec 64) (pre : List (List Value)), (bitsL x).length = m → pre ++ encEs ((bitsL x).map (fun b : Nat => ((i : Int), (b : Int))) ++ restL r (i + 1) d) = encEs (edgesL r) →
        ∀ σ, inT σ.t [(0, .v y), (1, .v (.pointer (some ⟨b, 0, none⟩))), (6, .v (.int .i64 r.n)), (7, .v (.int .i64 (i : Int))), (3, .v (.int .i64 (i : Int))), (4, .v (.int .u64 (un x)))] → inT σ.h [] →
          Run (fnC Tryd.prog 116 (Tryd.f116).ntmps w fp (J pre) R) _ σ by
      exact H2 _ (r.row i) pre rfl hp _ ⟨rfl, rfl, rfl, rfl, rfl, rfl, trivial⟩ trivial
    intro m
    induction m with
    | zero =>
      intro x pre hm hp σ ht hh
      refine Run.to ?_ ht hh (n' := 0)
      have hx : x = 0#64 := by
        by_cases h : x = 0#64
        · exact h
        · rw [bitsL_cons x h] at hm; cases hm
      refine RunF_sound tab_ok (hJ pre) 100 [false] _ _ rfl ?_ ?_
      · simp [hx]
      refine ih (i + 1) pre (by omega) ?_ _ ⟨rfl, rfl, rfl, i64_eq (wrap_succ (by omega)), trivial⟩ trivial
      have : bitsL x = [] := List.length_eq_zero_iff.1 hm
      rw [this] at hp; exact hp
    | succ m ihm =>
      intro x pre hm hp σ ht hh
      refine Run.to ?_ ht hh (n' := 0)
      have hx : x ≠ 0#64 := fun h => by rw [h, bitsL_zero] at hm; cases hm
      refine RunF_sound tab_ok (hJ pre) 100 [true] _ _ rfl ?_ ?_
      · simp [hx]
      refine Run.callFn (hJ pre) rfl rfl rfl rfl rfl rfl rfl tz_enters rfl (fun w' hw' => tz_ok x w' (hTw.agree hw' hf0)) ?_
      have htz : tzI x = (tz x : Int) := by rw [tzI, if_neg hx]
      rw [bits_restL r i d x hx] at hp
      have hp' : (pre ++ [encEd ((i : Int), (tz x : Int))]) ++ encEs ((bitsL (dropLow x)).map (fun b : Nat => ((i : Int), (b : Int))) ++ restL r (i + 1) d) = encEs (edgesL r) := by
        rw [← hp]; simp [encEs]
      have hpx : pre ++ [encEd ((i : Int), (tz x : Int))] <+: encEs (edgesL r) := ⟨_, hp'⟩
      refine RunF_sound tab_ok (hJ pre) 100 [] _ _ rfl ?_ ?_
      · simp [fillL, Value.cells, splice]
      refine Run.yield (J := J) (Js := Js) rfl (hy pre _ hpx) rfl rfl rfl rfl rfl ?_ rfl rfl ?_ ?_
      · rw [htz]; rfl
      · refine RunF_sound tab_ok (hJ _) 100 [false] _ _ rfl ?_ ?_
        · simp
        refine ihm (dropLow x) _ ?_ hp' _ ⟨rfl, rfl, rfl, rfl, rfl, ?_, trivial⟩ trivial
        · rw [bitsL_cons x hx] at hm; simpa using hm
        · refine u64_eq ?_
          rw [sub1_un, band_un]; rfl
      · refine RunF_sound tab_ok (hJs _) 100 [true] _ _ rfl ?_ ?_
        · simp
        exact Run.retI Tryd.func116 hres fun v w' fp' hg hX => hR v w' fp' _ hg (.inr ⟨hpx, hX⟩)

theorem edgesIt_enters : Enters Tryd.prog 116 := enters_mk Tryd.func116 (by decide) rfl

/-- The iterator over a relation's pairs, as a value. -/
def edgesF (b : Nat) : Value := .func (.func 116) #[] #[.pointer (some ⟨b, 0, none⟩)]

theorem edges_ok (r : Rl) (w : World) : Makes Tryd.prog 114 [encRel r] w (fun v w' => ∃ b, v = edgesF b ∧ w.heap.size ≤ b ∧ RelAt w' b (rightL r)) := by
  refine Makes.of_run Tryd.func114 rfl (by show 1 ≤ 6; decide) ?_
  refine RunF_sound tab_ok noX_local 100 [] _ _ rfl ?_ ?_
  · simp
  refine Run.callFn noX_local rfl rfl rfl rfl rfl rfl rfl right_enters rfl (fun w' _ => right_ok r w') ?_
  refine RunF_sound tab_ok noX_local 100 [] _ _ rfl ?_ ?_
  · simp [segsVals, relV_one']
  refine Run.ret tab_ok Tryd.func114 rfl trivial fun M fp a w' hr => ⟨hr.agree, (M 0).1, rfl, ?_, ?_⟩
  · rcases Nat.lt_or_ge (M 0).1 w.heap.size with h | h
    · exact (hr.own 0 _ rfl h).elim
    · exact h
  · intro q x hq
    have hb : BlkAt M w' 0 (.cells 34 [.vals 65 (relV (rightL r))]) := hr.heap 0 _ rfl
    have := vals_cells hb (off := 0) (s0 := 0) rfl q x hq
    rwa [Nat.zero_add] at this

theorem edges_enters : Enters Tryd.prog 114 := enters_mk Tryd.func114 (by decide) rfl

/-! ### The reference's -/

theorem encEs_next {E : List (Int × Int)} {k : Nat} (hk : k ≤ E.length) {x : List Value} (h : encEs (E.take k) ++ [x] <+: encEs E) : ∃ hlt : k < E.length, x = encEd E[k] := by
  have hl := h.length_le
  simp only [encEs, List.length_append, List.length_map, List.length_take, List.length_singleton] at hl
  have hlt : k < E.length := by omega
  refine ⟨hlt, ?_⟩
  obtain ⟨t, ht⟩ := h
  have := congrArg (fun l => l[k]?) ht
  simp only [encEs] at this
  rw [List.append_assoc, List.getElem?_append_right (by simp; omega)] at this
  simp [Nat.min_eq_left hk, hlt] at this
  exact this

theorem encEs_succ {E : List (Int × Int)} {k : Nat} (hlt : k < E.length) : encEs (E.take k) ++ [encEd E[k]] = encEs (E.take (k + 1)) := by
  rw [List.take_succ_eq_append_getElem hlt, encEs, encEs, List.map_append]; rfl

theorem encEs_all {E : List (Int × Int)} {k : Nat} (hk : k ≤ E.length) (h : encEs E = encEs (E.take k)) : k = E.length := by
  have := congrArg List.length h
  simp only [encEs, List.length_map, List.length_take] at this
  omega

open Classical in
/-- Two relations over the same numbers, or two void ones. -/
noncomputable def twoL (r s : Rl) : Rl × Rl := if (rightL r).n = (rightL s).n then (rightL r, rightL s) else (Rl.void 0, Rl.void 0)

theorem rightL_void : rightL (Rl.void 0) = Rl.void 0 := by
  refine rightL_of _ ?_
  unfold checkI
  rw [if_neg (by simp [Rl.void]), if_pos good_void]

theorem twoL_n (r s : Rl) : (twoL r s).1.n = (twoL r s).2.n := by
  unfold twoL; split
  · assumption
  · rfl

theorem twoL_right (r s : Rl) : rightL (twoL r s).1 = (twoL r s).1 ∧ rightL (twoL r s).2 = (twoL r s).2 := by
  unfold twoL; split
  · exact ⟨rightL_idem _, rightL_idem _⟩
  · exact ⟨rightL_void, rightL_void⟩

theorem two_ok (r s : Rl) (w : World) : Gives Tryd.prog 113 [encRel r, encRel s] w (.tuple #[encRel (twoL r s).1, encRel (twoL r s).2]) := by
  refine Gives.of_run Tryd.func113 rfl (by show 2 ≤ 19; decide) ?_
  refine RunF_sound tab_ok noX_local 100 [] _ _ rfl ?_ ?_
  · simp
  refine Run.drawA noX_local rfl [0] [(1, .cells 34 [.vals 65 (relV s)])] rfl rfl ⟨rfl, trivial⟩ ?_
  refine RunOF_sound tab_ok noX_local rfl rfl 200 [] _ _ rfl ?_ ?_
  · simp
  refine RunO.callFn noX_local rfl rfl rfl rfl rfl rfl rfl rfl right_enters rfl (fun w' _ => right_ok r w') ?_
  refine RunO.callFn noX_local rfl rfl rfl rfl rfl rfl rfl rfl right_enters rfl (fun w' _ => right_ok s w') ?_
  refine RunOF_sound tab_ok noX_local rfl rfl 1 [] _ _ rfl ?_ ?_
  · simp [segsVals, relV_one', inT, lk]
  refine RunO.effLast tab_ok noX_local rfl rfl rfl rfl ?_ (fun e => by cases e) rfl ?_
  · simp [segsVals, relV_one']
  by_cases h : (rightL r).n = (rightL s).n
  · have e : twoL r s = (rightL r, rightL s) := by unfold twoL; rw [if_pos h]
    rw [e]
    refine RunF_sound tab_ok noX_local 100 [false] _ _ rfl ?_ ?_
    · simp [h]
    refine Run.drawA noX_local rfl [] [(1, .cells 34 [.vals 65 (relV (rightL s))]), (0, .cells 34 [.vals 65 (relV (rightL r))])] rfl rfl ⟨rfl, rfl, trivial⟩ ?_
    refine RunOF_sound tab_ok noX_local rfl rfl 200 [] _ _ rfl ?_ ?_
    · simp [segsVals, relV_one', inT, lk]
    refine RunO.done ?_
    refine RunF_sound tab_ok noX_local 100 [] _ _ rfl ?_ ?_
    · simp
    refine Run.retL tab_ok Tryd.func113 rfl ?_ (fun M => rfl)
    simp
  · have e : twoL r s = (Rl.void 0, Rl.void 0) := by unfold twoL; rw [if_neg h]
    rw [e]
    refine RunF_sound tab_ok noX_local 100 [true] _ _ rfl ?_ ?_
    · simp [fillL, Value.cells, segsVals, relV_one', h]
    refine Run.retL tab_ok Tryd.func113 rfl ?_ (fun M => ?_)
    · simp [fillL, Value.cells]
    · rfl

theorem two_enters : Enters Tryd.prog 113 := enters_mk Tryd.func113 (by decide) rfl

def rowP (F : BitVec 64 → BitVec 64 → BitVec 64) (r s : Rl) (k : Nat) : Rl := Rl.by_ r.n fun i => if i < k then F (r.row i) (s.row i) else r.row i

theorem rowP_0 (F : BitVec 64 → BitVec 64 → BitVec 64) (r s : Rl) : rowP F r s 0 = r := by
  unfold rowP
  conv => rhs; rw [← by_row r]
  exact Rl.by_congr fun i _ => by simp

theorem rowP_row (F : BitVec 64 → BitVec 64 → BitVec 64) (r s : Rl) (k : Nat) (hk : k < 64) : (rowP F r s k).row k = r.row k := by
  rw [rowP, Rl.row_by, if_pos hk, if_neg (by omega)]

theorem rowP_step (F : BitVec 64 → BitVec 64 → BitVec 64) (r s : Rl) (k : Nat) : (rowP F r s k).setRow k (F (r.row k) (s.row k)) = rowP F r s (k + 1) := by
  unfold rowP
  rw [Rl.set_by]
  refine Rl.by_congr fun i _ => ?_
  by_cases h : k = i
  · subst h; simp
  · rw [if_neg h]
    have : (i < k) ↔ (i < k + 1) := by omega
    simp only [this]

noncomputable def opL (F : BitVec 64 → BitVec 64 → BitVec 64) (r s : Rl) : Rl := rowP F (twoL r s).1 (twoL r s).2 (twoL r s).1.n.toNat

theorem twoL_b (r s : Rl) : 0 ≤ (twoL r s).1.n ∧ (twoL r s).1.n ≤ 64 := by
  rw [← (twoL_right r s).1]; exact rightL_n _

theorem rowwise_ok (g : FuncId) (F : BitVec 64 → BitVec 64 → BitVec 64) (hent : Enters Tryd.prog g) (hg : ∀ a b w, Gives Tryd.prog g [.int .u64 (un a), .int .u64 (un b)] w (.int .u64 (un (F a b)))) (r s : Rl) (w : World) :
    Gives Tryd.prog 87 [encRel r, encRel s, .func (.func g) #[] #[]] w (encRel (opL F r s)) := by
  refine Gives.of_run Tryd.func87 rfl (by show 3 ≤ 34; decide) ?_
  refine RunF_sound tab_ok noX_local 100 [] _ _ rfl ?_ ?_
  · simp
  refine Run.callFn noX_local rfl rfl rfl rfl rfl rfl rfl two_enters rfl (fun w' _ => two_ok r s w') ?_
  have hn := twoL_b r s
  unfold opL
  generalize (twoL r s).1 = R at hn
  generalize (twoL r s).2 = S at hn
  refine RunF_sound tab_ok noX_local 100 [] _ _ rfl ?_ ?_
  · simp [segsVals, relV_one']
  suffices H : ∀ (d k : Nat), (k : Int) + d = R.n → ∀ σ, inT σ.t [(2, .v (.func (.func g) #[] #[])), (3, .ptr 0 0), (4, .ptr 1 0), (6, .ptr 2 0), (15, .v (.int .i64 R.n)), (16, .v (.int .i64 (k : Int)))] →
      inT σ.h [(0, .cells 34 [.vals 65 (relV (rowP F R S k))]), (1, .cells 34 [.vals 65 (relV S)]), (2, .cells 34 [.vals 65 (relV (Rl.void 0))])] → Run _ _ σ by
    refine H R.n.toNat 0 (by omega) _ ⟨rfl, rfl, rfl, rfl, ?_, rfl, trivial⟩ ⟨?_, ?_, rfl, trivial⟩
    · simp [lk]
    · rw [rowP_0]; simp [lk]
    · simp [lk]
  intro d
  induction d with
  | zero =>
    intro k hk σ ht hh
    refine Run.to ?_ ht hh (n' := 3)
    refine RunF_sound tab_ok noX_local 100 [false] _ _ rfl ?_ ?_
    · simp [relV_one', segsVals]; omega
    · refine Run.retP tab_ok Tryd.func87 rfl ?_ (fun M => ?_)
      · simp
      have : R.n.toNat = k := by omega
      rw [this]; rfl
  | succ d ih =>
    intro k hk σ ht hh
    refine Run.to ?_ ht hh (n' := 3)
    have hk' : k < 64 := by omega
    refine RunF_sound tab_ok noX_local 100 [true] _ _ rfl ?_ ?_
    · simp; omega
    refine Run.drawA noX_local rfl [5] [(1, .cells 34 [.vals 65 (relV S)])] rfl rfl ⟨rfl, trivial⟩ ?_
    refine RunOF_sound tab_ok noX_local rfl rfl 100 [] _ _ rfl ?_ ?_
    · simp [relV_get _ _ hk', intAt_row _ _ hk']; omega
    refine RunO.callFv (cs := []) (f := g) (r := .int .u64 (un (F (R.row k) (S.row k)))) noX_local rfl rfl rfl rfl rfl rfl rfl rfl hent rfl (fun w' _ => ?_) ?_
    · have e1 : intAt (relV (rowP F R S k)) (1 - 0 + (k : Int).toNat * 1) = un (R.row k) := by
        rw [show 1 - 0 + (k : Int).toNat * 1 = 1 + k by simp, intAt_row _ _ hk', rowP_row F R S k hk']
      have e2 : intAt (relV S) (1 - 0 + (k : Int).toNat * 1) = un (S.row k) := by
        rw [show 1 - 0 + (k : Int).toNat * 1 = 1 + k by simp, intAt_row _ _ hk']
      have := hg (R.row k) (S.row k) w'
      rw [← e1, ← e2] at this
      exact this
    refine RunOF_sound tab_ok noX_local rfl rfl 100 [] _ _ rfl ?_ ?_
    · simp [okCell, Value.oneCell', inT, lk]; omega
    refine RunO.done ?_
    refine RunF_sound tab_ok noX_local 100 [] _ _ rfl ?_ ?_
    · simp
    refine ih (k + 1) (by omega) _ ⟨rfl, rfl, rfl, rfl, rfl, i64_eq (wrap_succ (by omega)), trivial⟩ ⟨congrArg (fun l => some (Blk.cells 34 [.vals 65 l])) ?_, rfl, rfl, trivial⟩
    simp [relV_set _ _ hk', rowP_step]

theorem rowwise_enters : Enters Tryd.prog 87 := enters_mk Tryd.func87 (by decide) rfl

theorem andn_ok (a b : BitVec 64) (w : World) : Gives Tryd.prog 88 [.int .u64 (un a), .int .u64 (un b)] w (.int .u64 (un (a &&& ~~~b))) := by
  refine Gives.of_run Tryd.func88 rfl (by show 2 ≤ 8; decide) ?_
  refine RunF_sound tab_ok noX_local 100 [] _ _ rfl ?_ ?_
  · simp
  exact Run.retP tab_ok Tryd.func88 rfl trivial (fun M => by show Value.int _ _ = _; rw [bandn_un])

theorem andn_enters : Enters Tryd.prog 88 := enters_mk Tryd.func88 (by decide) rfl

theorem minus_ok (r s : Rl) (w : World) : Gives Tryd.prog 53 [encRel r, encRel s] w (encRel (opL (fun a b => a &&& ~~~b) r s)) := by
  refine Gives.of_run Tryd.func53 rfl (by show 2 ≤ 8; decide) ?_
  refine RunF_sound tab_ok noX_local 100 [] _ _ rfl ?_ ?_
  · simp
  refine Run.callM noX_local rfl rfl rfl rfl rfl rfl rowwise_enters rfl (fun M w' _ _ => rowwise_ok 88 (fun a b => a &&& ~~~b) andn_enters andn_ok r s w') ?_
  refine RunF_sound tab_ok noX_local 100 [] _ _ rfl ?_ ?_
  · simp [segsVals, relV_one']
  refine Run.retP tab_ok Tryd.func53 rfl ?_ (fun M => ?_)
  · simp
  rfl

theorem minus_enters : Enters Tryd.prog 53 := enters_mk Tryd.func53 (by decide) rfl

def invF (n : Int) (l : List (Int × Int)) : Rl := l.foldl (fun o e => o.setRow e.2.toNat (o.row e.2.toNat ||| 1#64 <<< e.1.toNat)) (Rl.void n)

theorem invF_app (n : Int) (l : List (Int × Int)) (e : Int × Int) : invF n (l ++ [e]) = (invF n l).setRow e.2.toNat ((invF n l).row e.2.toNat ||| 1#64 <<< e.1.toNat) := by
  unfold invF; rw [List.foldl_append]; rfl

def cmpF (s : Rl) (n : Int) (l : List (Int × Int)) : Rl := l.foldl (fun o e => o.setRow e.1.toNat (o.row e.1.toNat ||| s.row e.2.toNat)) (Rl.void n)

theorem cmpF_app (s : Rl) (n : Int) (l : List (Int × Int)) (e : Int × Int) : cmpF s n (l ++ [e]) = (cmpF s n l).setRow e.1.toNat ((cmpF s n l).row e.1.toNat ||| s.row e.2.toNat) := by
  unfold cmpF; rw [List.foldl_append]; rfl

/-- Where the pairs are. -/
theorem restL_mem (r : Rl) : ∀ d i e, e ∈ restL r i d → ∃ a b : Nat, e = ((a : Int), (b : Int)) ∧ i ≤ a ∧ a < i + d ∧ r.has a b = true
  | 0, i, e, h => by cases h
  | d + 1, i, e, h => by
    rw [restL, List.mem_append] at h
    rcases h with h | h
    · obtain ⟨b, hb, rfl⟩ := List.mem_map.1 h
      exact ⟨i, b, rfl, Nat.le_refl _, by omega, (bitsL_mem _ _).1 hb⟩
    · obtain ⟨a, b, h1, h2, h3, h4⟩ := restL_mem r d (i + 1) e h
      exact ⟨a, b, h1, by omega, by omega, h4⟩

theorem edges_mem (r : Rl) (e : Int × Int) (h : e ∈ edgesL r) : ∃ a b : Nat, e = ((a : Int), (b : Int)) ∧ a < 64 ∧ b < 64 ∧ r.has a b = true := by
  obtain ⟨a, b, h1, h2, h3, h4⟩ := restL_mem r _ _ e h
  obtain ⟨h5, h6⟩ := Rl.has_lt r h4
  exact ⟨a, b, h1, h5, h6, h4⟩

/-- The blocks of Inverse. -/
def invBlk (r o : Rl) : List (Nat × Blk) := [(2, .cells 34 [.vals 65 (relV o)]), (1, .cells 34 [.vals 65 (relV (Rl.void 0))]), (0, .cells 34 [.vals 65 (relV r)])]

theorem inverse_ok (r : Rl) (w : World) (hT : TabAt w) (h0 : 0 < w.heap.size) : Gives Tryd.prog 94 [encRel r] w (encRel (invF (rightL r).n (edgesL (rightL r)))) := by
  refine Gives.of_run Tryd.func94 rfl (by show 1 ≤ 24; decide) ?_
  refine RunF_sound tab_ok noX_local 100 [] _ _ rfl ?_ ?_
  · simp
  refine Run.callFn noX_local rfl rfl rfl rfl rfl rfl rfl right_enters rfl (fun w' _ => right_ok r w') ?_
  refine RunF_sound tab_ok noX_local 100 [] _ _ rfl ?_ ?_
  · simp [fillL, Value.cells, segsVals, relV_tail_one, splice]
  refine Run.callR noX_local rfl rfl rfl rfl rfl rfl edges_enters rfl (fun M w' _ _ => edges_ok r w') ?_
  rintro v w2 w1 S1 hag hag2 ⟨bb, rfl, hbl, hRel⟩ hS1
  have hB1 := (Based.refl w).call hag hag2 hS1
  have hbw1 : bb < w1.heap.size := World.block_lt_of_cell? w1 _ (hRel 0 _ rfl)
  have hS1b : ¬ S1 bb := hS1.new bb hbl
  have hS10 : ¬ S1 0 := fun h => by have := hB1.new 0 h; omega
  have hw1 : 0 < w1.heap.size := by have := hB1.agree.size; omega
  have hn := rightL_n r
  have hit := edges_iter (rightL r) hn bb w1 hRel (hT.agree hB1.agree (fun f => f))
  have hmem := edges_mem (rightL r)
  generalize rightL r = R at *
  generalize edgesL R = E at *
  refine ⟨.fn 116 [.v (.pointer (some ⟨bb, 0, none⟩))], fun M => rfl, ?_⟩
  refine RunF_sound tab_ok noX_local 100 [] _ _ rfl ?_ ?_
  · simp
  refine Run.rangeFn noX_local rfl rfl (fun M => rfl) edgesIt_enters 4 [(3, .ptr 2 0), (2, .ptr 1 0)] ⟨rfl, rfl, trivial⟩ rfl rfl hit
    (fun k hk => by rcases hk with rfl | rfl; exact ⟨hw1, hS10⟩; exact ⟨hbw1, hS1b⟩) (fun x hx => by simp only [encEs, List.mem_map] at hx; obtain ⟨e, _, rfl⟩ := hx; rfl)
    (fun pre h => ∃ k, k ≤ E.length ∧ pre = encEs (E.take k) ∧ h = invBlk r (invF R.n (E.take k)))
    (fun _ _ _ => False) 12 (invBlk r (invF R.n [])) ⟨0, by omega, rfl, rfl⟩ ⟨?_, rfl, rfl, trivial⟩ ?_ ?_ ?_
  · show _ = some (Blk.cells 34 [.vals 65 (relV (Rl.void R.n))])
    rfl
  · rintro D l a0 rc wy fpy pre x h hI hpx ⟨k, hk, rfl, rfl⟩
    obtain ⟨hlt, rfl⟩ := encEs_next hk hpx
    obtain ⟨a, b, he, ha, hb, hab⟩ := hmem E[k] (List.getElem_mem hlt)
    have hts : E.take (k + 1) = E.take k ++ [E[k]] := List.take_succ_eq_append_getElem hlt
    have hstep : invF R.n (E.take (k + 1)) = (invF R.n (E.take k)).setRow b ((invF R.n (E.take k)).row b ||| 1#64 <<< a) := by
      rw [hts, invF_app, he]; simp
    have hnext : encEs (E.take k) ++ [encEd E[k]] = encEs (E.take (k + 1)) := encEs_succ hlt
    rw [he] at hnext ⊢
    generalize invF R.n (E.take k) = o at hstep ⊢
    refine RunF_sound tab_ok (roundX_local hI.loc l rc .ready) 100 [] _ _ rfl ?_ ?_
    · simp [segsVals]
    refine Run.beginRound hI.loc hI.lw ?_
    refine RunF_sound tab_ok (roundX_local hI.loc l rc .busy) 100 [] _ _ rfl ?_ ?_
    · simp
    refine Run.drawA (roundX_local hI.loc l rc .busy) rfl [4] [(12, .cells 144 [.vals 2 [.int .i64 (a : Int), .int .i64 (b : Int)]])] rfl rfl ⟨rfl, trivial⟩ ?_
    refine RunOF_sound tab_ok (roundX_local hI.loc l rc .busy) rfl rfl 100 [] _ _ rfl ?_ ?_
    · simp [relV_get _ _ hb, intAt_row _ _ hb, okCell, Value.oneCell', inT, lk]; omega
    refine RunO.done ?_
    refine RunF_sound tab_ok (roundX_local hI.loc l rc .busy) 100 [] _ _ rfl ?_ ?_
    · simp
    refine Run.roundEnd hI [] (invBlk r (invF R.n (E.take (k + 1)))) ⟨k + 1, by omega, hnext, rfl⟩ ⟨rfl, rfl, trivial⟩ ⟨?_, rfl, rfl, trivial⟩ rfl
    refine congrArg (fun l => some (Blk.cells 34 [.vals 65 l])) ?_
    rw [hstep]
    simp [intAt_row _ _ hb, shl1_un, relV_set _ _ hb]
  · rintro D h ⟨k, hk, hx, rfl⟩
    have hke := encEs_all hk hx
    have e1 : E.take k = E := List.take_of_length_le (by omega)
    rw [e1]
    refine RunF_sound tab_ok (markX_local noX_local D) 100 [] _ _ rfl ?_ ?_
    · simp [segsVals, relV_one']
    refine Run.retB (Ds := [D]) tab_ok noX_local hB1 Tryd.func94 rfl ?_ (fun M => ?_)
    · simp
    rfl
  · rintro D pre c h hpre hF
    exact hF.elim

theorem inverse_enters : Enters Tryd.prog 94 := enters_mk Tryd.func94 (by decide) rfl

def cmpBlk (r s o : Rl) : List (Nat × Blk) := [(3, .cells 34 [.vals 65 (relV o)]), (2, .cells 34 [.vals 65 (relV (Rl.void 0))]), (1, .cells 34 [.vals 65 (relV s)]), (0, .cells 34 [.vals 65 (relV r)])]

noncomputable def composeL (r s : Rl) : Rl := cmpF (twoL r s).2 (twoL r s).1.n (edgesL (twoL r s).1)

theorem compose_ok (r s : Rl) (w : World) (hT : TabAt w) (h0 : 0 < w.heap.size) : Gives Tryd.prog 93 [encRel r, encRel s] w (encRel (composeL r s)) := by
  refine Gives.of_run Tryd.func93 rfl (by show 2 ≤ 33; decide) ?_
  refine RunF_sound tab_ok noX_local 100 [] _ _ rfl ?_ ?_
  · simp
  refine Run.callFn noX_local rfl rfl rfl rfl rfl rfl rfl two_enters rfl (fun w' _ => two_ok r s w') ?_
  have hn := twoL_b r s
  have hrt := (twoL_right r s).1
  unfold composeL
  generalize (twoL r s).1 = R at hn hrt
  generalize (twoL r s).2 = S at hn hrt
  refine RunF_sound tab_ok noX_local 100 [] _ _ rfl ?_ ?_
  · simp [fillL, Value.cells, segsVals, relV_one', relV_tail_one, splice]
  refine Run.callR (Q := fun v w w' => ∃ b, v = edgesF b ∧ w.heap.size ≤ b ∧ RelAt w' b R) noX_local rfl rfl rfl rfl rfl rfl edges_enters rfl (fun M w' _ _ => ?_) ?_
  · have := edges_ok R w'
    rw [hrt] at this
    simp only [List.append_nil]
    exact this
  rintro v w2 w1 S1 hag hag2 ⟨bb, rfl, hbl, hRel⟩ hS1
  have hB1 := (Based.refl w).call hag hag2 hS1
  have hbw1 : bb < w1.heap.size := World.block_lt_of_cell? w1 _ (hRel 0 _ rfl)
  have hS1b : ¬ S1 bb := hS1.new bb hbl
  have hS10 : ¬ S1 0 := fun h => by have := hB1.new 0 h; omega
  have hw1 : 0 < w1.heap.size := by have := hB1.agree.size; omega
  have hit := edges_iter R hn bb w1 hRel (hT.agree hB1.agree (fun f => f))
  have hmem := edges_mem R
  generalize edgesL R = E at *
  refine ⟨.fn 116 [.v (.pointer (some ⟨bb, 0, none⟩))], fun M => rfl, ?_⟩
  refine RunF_sound tab_ok noX_local 100 [] _ _ rfl ?_ ?_
  · simp
  refine Run.rangeFn noX_local rfl rfl (fun M => rfl) edgesIt_enters 6 [(5, .ptr 3 0), (4, .ptr 2 0), (3, .ptr 1 0)] ⟨rfl, rfl, rfl, trivial⟩ rfl rfl hit
    (fun k hk => by rcases hk with rfl | rfl; exact ⟨hw1, hS10⟩; exact ⟨hbw1, hS1b⟩) (fun x hx => by simp only [encEs, List.mem_map] at hx; obtain ⟨e, _, rfl⟩ := hx; rfl)
    (fun pre h => ∃ k, k ≤ E.length ∧ pre = encEs (E.take k) ∧ h = cmpBlk R S (cmpF S R.n (E.take k)))
    (fun _ _ _ => False) 12 (cmpBlk R S (cmpF S R.n [])) ⟨0, by omega, rfl, rfl⟩ ⟨?_, rfl, ?_, ?_, trivial⟩ ?_ ?_ ?_
  · show _ = some (Blk.cells 34 [.vals 65 (relV (Rl.void R.n))])
    simp [lk]
    rfl
  · simp [lk]
  · simp [lk]
  · rintro D l a0 rc wy fpy pre x h hI hpx ⟨k, hk, rfl, rfl⟩
    obtain ⟨hlt, rfl⟩ := encEs_next hk hpx
    obtain ⟨a, b, he, ha, hb, hab⟩ := hmem E[k] (List.getElem_mem hlt)
    have hts : E.take (k + 1) = E.take k ++ [E[k]] := List.take_succ_eq_append_getElem hlt
    have hstep : cmpF S R.n (E.take (k + 1)) = (cmpF S R.n (E.take k)).setRow a ((cmpF S R.n (E.take k)).row a ||| S.row b) := by
      rw [hts, cmpF_app, he]; simp
    have hnext : encEs (E.take k) ++ [encEd E[k]] = encEs (E.take (k + 1)) := encEs_succ hlt
    rw [he] at hnext ⊢
    generalize cmpF S R.n (E.take k) = o at hstep ⊢
    refine RunF_sound tab_ok (roundX_local hI.loc l rc .ready) 100 [] _ _ rfl ?_ ?_
    · simp [segsVals]
    refine Run.beginRound hI.loc hI.lw ?_
    refine RunF_sound tab_ok (roundX_local hI.loc l rc .busy) 100 [] _ _ rfl ?_ ?_
    · simp
    refine Run.drawA (roundX_local hI.loc l rc .busy) rfl [4] [(12, .cells 144 [.vals 2 [.int .i64 (a : Int), .int .i64 (b : Int)]]), (1, .cells 34 [.vals 65 (relV S)])] rfl rfl ⟨rfl, rfl, trivial⟩ ?_
    refine RunOF_sound tab_ok (roundX_local hI.loc l rc .busy) rfl rfl 100 [] _ _ rfl ?_ ?_
    · simp [relV_get _ _ hb, relV_get _ _ ha, intAt_row _ _ hb, intAt_row _ _ ha, okCell, Value.oneCell', inT, lk]; omega
    refine RunO.done ?_
    refine RunF_sound tab_ok (roundX_local hI.loc l rc .busy) 100 [] _ _ rfl ?_ ?_
    · simp
    refine Run.roundEnd hI [] (cmpBlk R S (cmpF S R.n (E.take (k + 1)))) ⟨k + 1, by omega, hnext, rfl⟩ ⟨rfl, rfl, rfl, trivial⟩ ⟨?_, rfl, rfl, rfl, trivial⟩ rfl
    refine congrArg (fun l => some (Blk.cells 34 [.vals 65 l])) ?_
    rw [hstep]
    simp [intAt_row _ _ hb, intAt_row _ _ ha, relV_set _ _ ha]
  · rintro D h ⟨k, hk, hx, rfl⟩
    have hke := encEs_all hk hx
    have e1 : E.take k = E := List.take_of_length_le (by omega)
    rw [e1]
    refine RunF_sound tab_ok (markX_local noX_local D) 100 [] _ _ rfl ?_ ?_
    · simp [segsVals, relV_one']
    refine Run.retB (Ds := [D]) tab_ok noX_local hB1 Tryd.func93 rfl ?_ (fun M => ?_)
    · simp
    rfl
  · rintro D pre c h hpre hF
    exact hF.elim

theorem compose_enters : Enters Tryd.prog 93 := enters_mk Tryd.func93 (by decide) rfl

/-! ### Where the pairs of a fold are -/

theorem invF_n (n : Int) : ∀ l : List (Int × Int), (invF n l).n = n := by
  intro l
  unfold invF
  suffices H : ∀ (l : List (Int × Int)) (o : Rl), (l.foldl (fun o e => o.setRow e.2.toNat (o.row e.2.toNat ||| 1#64 <<< e.1.toNat)) o).n = o.n from H l _
  intro l
  induction l with
  | nil => intro o; rfl
  | cons e l ih => intro o; rw [List.foldl_cons, ih, Rl.n_setRow]

theorem cmpF_n (s : Rl) (n : Int) : ∀ l : List (Int × Int), (cmpF s n l).n = n := by
  intro l
  unfold cmpF
  suffices H : ∀ (l : List (Int × Int)) (o : Rl), (l.foldl (fun o e => o.setRow e.1.toNat (o.row e.1.toNat ||| s.row e.2.toNat)) o).n = o.n from H l _
  intro l
  induction l with
  | nil => intro o; rfl
  | cons e l ih => intro o; rw [List.foldl_cons, ih, Rl.n_setRow]

theorem invF_has (l : List (Int × Int)) (hl : ∀ e ∈ l, e.1.toNat < 64 ∧ e.2.toNat < 64) : ∀ (o : Rl) (x y : Nat),
    (l.foldl (fun o e => o.setRow e.2.toNat (o.row e.2.toNat ||| 1#64 <<< e.1.toNat)) o).has x y = (o.has x y || l.any fun e => decide (e.2.toNat = x) && decide (e.1.toNat = y)) := by
  induction l with
  | nil => intro o x y; simp
  | cons e l ih =>
    intro o x y
    have he := hl e (List.mem_cons_self ..)
    rw [List.foldl_cons, ih (fun e' h' => hl e' (List.mem_cons_of_mem _ h')), Rl.has_setRow, List.any_cons, ← Bool.or_assoc]
    congr 1
    by_cases hx : e.2.toNat = x
    · subst hx
      rw [if_pos ⟨rfl, he.2⟩, BitVec.getLsbD_or, one_shl_get _ _ he.1]
      have : ∀ a b : Nat, decide (a = b) = decide (b = a) := fun a b => decide_eq_decide.2 eq_comm
      rw [this y]
      simp [Rl.has]
    · rw [if_neg (by simp [hx])]; simp [hx]

theorem cmpF_has (s : Rl) (l : List (Int × Int)) (hl : ∀ e ∈ l, e.1.toNat < 64) : ∀ (o : Rl) (x y : Nat),
    (l.foldl (fun o e => o.setRow e.1.toNat (o.row e.1.toNat ||| s.row e.2.toNat)) o).has x y = (o.has x y || l.any fun e => decide (e.1.toNat = x) && s.has e.2.toNat y) := by
  induction l with
  | nil => intro o x y; simp
  | cons e l ih =>
    intro o x y
    have he := hl e (List.mem_cons_self ..)
    rw [List.foldl_cons, ih (fun e' h' => hl e' (List.mem_cons_of_mem _ h')), Rl.has_setRow, List.any_cons, ← Bool.or_assoc]
    congr 1
    by_cases hx : e.1.toNat = x
    · subst hx
      rw [if_pos ⟨rfl, he⟩, BitVec.getLsbD_or]
      simp [Rl.has]
    · rw [if_neg (by simp [hx])]; simp [hx]

theorem edges_has (r : Rl) (a b : Nat) : ((a : Int), (b : Int)) ∈ edgesL (rightL r) ↔ (rightL r).has a b = true := by
  have hn := rightL_n r
  constructor
  · intro h
    obtain ⟨a', b', h1, _, _, h4⟩ := edges_mem _ _ h
    simp only [Prod.mk.injEq, Int.natCast_inj] at h1
    rw [h1.1, h1.2]; exact h4
  · intro h
    have hb := right_has r a b h
    suffices H : ∀ d i, i ≤ a → a < i + d → ((a : Int), (b : Int)) ∈ restL (rightL r) i d from H _ 0 (Nat.zero_le _) (by omega)
    intro d
    induction d with
    | zero => intro i h1 h2; omega
    | succ d ih =>
      intro i h1 h2
      rw [restL, List.mem_append]
      by_cases he : i = a
      · subst he
        exact .inl (List.mem_map.2 ⟨b, (bitsL_mem _ _).2 h, rfl⟩)
      · exact .inr (ih (i + 1) (by omega) (by omega))

/-- Inverse, pair by pair. -/
theorem inverse_has (r : Rl) (x y : Nat) : (invF (rightL r).n (edgesL (rightL r))).has x y = (rightL r).has y x := by
  unfold invF
  rw [invF_has _ (fun e he => by obtain ⟨a, b, rfl, h1, h2, _⟩ := edges_mem _ _ he; exact ⟨by simpa using h1, by simpa using h2⟩), Rl.gen_void, Rl.has_gen]
  rw [Bool.and_false, Bool.false_or, Bool.eq_iff_iff, List.any_eq_true]
  constructor
  · rintro ⟨e, he, h⟩
    obtain ⟨a, b, rfl, _, _, h4⟩ := edges_mem _ _ he
    simp at h
    rw [← h.1, ← h.2]; exact h4
  · intro h
    exact ⟨((y : Int), (x : Int)), (edges_has r y x).2 h, by simp⟩

/-- Compose, pair by pair. -/
theorem compose_has (r s : Rl) (x y : Nat) : (composeL r s).has x y = (List.range 64).any fun c => (twoL r s).1.has x c && (twoL r s).2.has c y := by
  unfold composeL cmpF
  have hr := (twoL_right r s).1
  rw [cmpF_has _ _ (fun e he => by obtain ⟨a, b, rfl, h1, h2, _⟩ := edges_mem _ _ he; simpa using h1), Rl.gen_void, Rl.has_gen]
  rw [Bool.and_false, Bool.false_or, Bool.eq_iff_iff, List.any_eq_true, List.any_eq_true]
  constructor
  · rintro ⟨e, he, h⟩
    obtain ⟨a, b, rfl, _, hb, h4⟩ := edges_mem _ _ he
    simp at h
    exact ⟨b, List.mem_range.2 hb, by rw [← h.1, h4]; simpa using h.2⟩
  · rintro ⟨c, _, h⟩
    simp only [Bool.and_eq_true] at h
    refine ⟨((x : Int), (c : Int)), ?_, by simpa using h.2⟩
    rw [← hr]
    exact (edges_has _ x c).2 (by rw [hr]; exact h.1)

/-- Which pairs stand in an operation of two. -/
def pTwo (op : Nat) (R S : Rl) (x y : Nat) : Bool :=
  match op with
  | 0 => R.has x y || S.has x y
  | 1 => R.has x y && S.has x y
  | 2 => R.has x y && !S.has x y
  | _ => (List.range R.n.toNat).any fun c => R.has x c && S.has c y

noncomputable def twoR (op : Nat) (r s : Rl) : Rl := Rl.gen (twoL r s).1.n (pTwo op (twoL r s).1 (twoL r s).2)

/-- An operation row by row, pair by pair. -/
theorem opL_gen (F : BitVec 64 → BitVec 64 → BitVec 64) (op : Nat) (h0 : F 0#64 0#64 = 0#64) (hF : ∀ R S : Rl, ∀ x y, y < 64 → (F (R.row x) (S.row x)).getLsbD y = pTwo op R S x y) (r s : Rl) : opL F r s = twoR op r s := by
  have hr := twoL_right r s
  have hn := twoL_n r s
  have hb := twoL_b r s
  unfold opL twoR
  generalize (twoL r s).1 = R at hr hn hb
  generalize (twoL r s).2 = S at hr hn
  apply Rl.ext_has
  · rw [Rl.n_gen]; exact Rl.n_by _ _
  · intro x y hx hy
    rw [Rl.has_gen, decide_eq_true ⟨hx, hy⟩, Bool.true_and, ← hF R S x y hy]
    show ((rowP F R S R.n.toNat).row x).getLsbD y = _
    unfold rowP
    rw [Rl.row_by, if_pos hx]
    by_cases hlt : x < R.n.toNat
    · rw [if_pos hlt]
    · rw [if_neg hlt, row0_of hr.1 (by omega), row0_of hr.2 (show S.n ≤ (x : Int) by omega), h0]

theorem minus_eq (r s : Rl) : opL (fun a b => a &&& ~~~b) r s = twoR 2 r s := opL_gen _ 2 (by decide) (fun R S x y hy => by rw [BitVec.getLsbD_and, BitVec.getLsbD_not, decide_eq_true hy, Bool.true_and]; rfl) r s

theorem compose_eq (r s : Rl) : composeL r s = twoR 3 r s := by
  have hr := twoL_right r s
  have hb := twoL_b r s
  apply Rl.ext_has
  · unfold composeL twoR
    rw [cmpF_n, Rl.n_gen]
  · intro x y hx hy
    rw [compose_has]
    unfold twoR
    rw [Rl.has_gen, decide_eq_true ⟨hx, hy⟩, Bool.true_and]
    generalize (twoL r s).1 = R at hr hb
    generalize (twoL r s).2 = S at hr
    show _ = (List.range R.n.toNat).any fun c => R.has x c && S.has c y
    rw [Bool.eq_iff_iff, List.any_eq_true, List.any_eq_true]
    constructor
    · rintro ⟨c, _, h⟩
      have h1 := (Bool.and_eq_true_iff.1 h).1
      have := right_has R x c (by rw [hr.1]; exact h1)
      rw [hr.1] at this
      exact ⟨c, List.mem_range.2 (by omega), h⟩
    · rintro ⟨c, hc, h⟩
      have := List.mem_range.1 hc
      exact ⟨c, List.mem_range.2 (by omega), h⟩

theorem inverse_eq (r : Rl) : invF (rightL r).n (edgesL (rightL r)) = Rl.gen (rightL r).n fun x y => (rightL r).has y x := by
  apply Rl.ext_has
  · rw [invF_n, Rl.n_gen]
  · intro x y hx hy
    rw [inverse_has, Rl.has_gen, decide_eq_true ⟨hx, hy⟩, Bool.true_and]

end Go.Proofs.YtmammebifhmnhaaDoor
