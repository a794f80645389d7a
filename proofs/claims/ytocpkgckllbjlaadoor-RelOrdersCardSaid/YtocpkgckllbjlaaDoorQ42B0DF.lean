/-
  Own work, merged: LBITS, B1.
-/
import Derived.AtR
import Derived.Below
import Derived.ChangeKeysEq
import Derived.KernelRfl
import Derived.Laws.AppendOwn
import Derived.Laws.BytesString
import Derived.Laws.Cells
import Derived.Laws.CopyRow
import Derived.Laws.Entries
import Derived.Laws.Rows
import Derived.Laws.Small
import Derived.Laws.StructEq
import Derived.Lib.TrailingZeros
import Derived.Maps.AppendAt
import Derived.OpenShut
import Derived.Orders
import Derived.ProofKit
import Derived.RangeFuncRecord
import Derived.Test.YtocpkgckllbjlaaDoorProg
import Derived.Test.YtocpkgckllbjlaaDoorQB4C9C6
/-
  The bits of a word, one after another; the lowest one taken away. Plain arithmetic; of no program. Own work.
-/
namespace Go.AM

/-- The places of a word's one bits, rising. -/
def bitsL (x : BitVec 64) : List Nat := (List.range 64).filter fun i => x.getLsbD i

/-- The lowest one bit's place. -/
def tz (x : BitVec 64) : Nat := Go.Lib.ctz 64 x.toNat

theorem tz_parts (x : BitVec 64) (h : x ≠ 0#64) : ∃ m, x.toNat = 2 ^ tz x * (2 * m + 1) ∧ tz x < 64 := by
  have h0 : x.toNat ≠ 0 := fun e => h (BitVec.eq_of_toNat_eq (by simpa using e))
  have := Go.Lib.ctzFrom_spec 64 x.toNat (by omega) x.isLt
  unfold tz Go.Lib.ctz
  rw [if_neg h0]
  exact this

theorem testBit_parts (k m i : Nat) : (2 ^ k * (2 * m + 1)).testBit i = (decide (i = k) || (decide (k < i) && m.testBit (i - k - 1))) := by
  rw [Nat.mul_comm, Nat.testBit_mul_two_pow]
  by_cases hik : k ≤ i
  · by_cases he : i = k
    · subst he; simp
    · obtain ⟨j, rfl⟩ : ∃ j, i = k + (j + 1) := ⟨i - k - 1, by omega⟩
      have e3 : k + (j + 1) - k = j + 1 := by omega
      have e4 : j + 1 - 1 = j := by omega
      have d1 : (2 * m + 1) / 2 = m := by omega
      rw [e3, e4, Nat.testBit_succ, d1]
      have : ¬ k + (j + 1) = k := by omega
      have h2 : k < k + (j + 1) := by omega
      have h3 : k ≤ k + (j + 1) := by omega
      simp [h2, h3]
  · have : ¬ i = k := by omega
    have h2 : ¬ k < i := by omega
    simp [hik, this, h2]

theorem testBit_pred (k m i : Nat) : (2 ^ k * (2 * m + 1) - 1).testBit i = (decide (i < k) || (decide (k < i) && m.testBit (i - k - 1))) := by
  have hpos : 0 < 2 ^ k := Nat.two_pow_pos k
  have e : 2 ^ k * (2 * m + 1) - 1 = 2 ^ k * (2 * m) + (2 ^ k - 1) := by
    rw [Nat.mul_add, Nat.mul_one]; omega
  rw [e, Nat.testBit_two_pow_mul_add _ (by omega)]
  by_cases hik : i < k
  · have : ¬ k < i := by omega
    simp [hik, Nat.testBit_two_pow_sub_one]
  · by_cases he : i = k
    · subst he; simp
    · obtain ⟨j, rfl⟩ : ∃ j, i = k + (j + 1) := ⟨i - k - 1, by omega⟩
      have e3 : k + (j + 1) - k = j + 1 := by omega
      have e4 : j + 1 - 1 = j := by omega
      have d1 : (2 * m) / 2 = m := by omega
      have h2 : k < k + (j + 1) := by omega
      simp only [hik, if_false, decide_false, Bool.false_or, h2, decide_true, Bool.true_and]
      rw [e3, e4, Nat.testBit_succ, d1]

theorem get_low (x : BitVec 64) (h : x ≠ 0#64) (i : Nat) : x.getLsbD i = true → tz x ≤ i := by
  obtain ⟨m, hm, _⟩ := tz_parts x h
  intro hi
  rw [BitVec.getLsbD, hm, testBit_parts] at hi
  simp at hi
  omega

theorem get_tz (x : BitVec 64) (h : x ≠ 0#64) : x.getLsbD (tz x) = true := by
  obtain ⟨m, hm, _⟩ := tz_parts x h
  rw [BitVec.getLsbD, hm, testBit_parts]
  simp

theorem tz_lt (x : BitVec 64) (h : x ≠ 0#64) : tz x < 64 := (tz_parts x h).elim fun _ h => h.2

/-- The lowest one bit taken away. -/
def dropLow (x : BitVec 64) : BitVec 64 := x &&& (x - 1#64)

theorem get_dropLow (x : BitVec 64) (h : x ≠ 0#64) (i : Nat) : (dropLow x).getLsbD i = (x.getLsbD i && !decide (i = tz x)) := by
  obtain ⟨m, hm, hk⟩ := tz_parts x h
  have h0 : x.toNat ≠ 0 := fun e => h (BitVec.eq_of_toNat_eq (by simpa using e))
  have e1 : (x - 1#64).toNat = x.toNat - 1 := by
    rw [BitVec.toNat_sub]
    have := x.isLt
    have h1 : (1#64).toNat = 1 := rfl
    rw [h1]; omega
  unfold dropLow
  rw [BitVec.getLsbD_and, BitVec.getLsbD, BitVec.getLsbD, e1, hm, testBit_parts, testBit_pred]
  by_cases h1 : i = tz x
  · subst h1; simp
  · by_cases h2 : tz x < i
    · cases m.testBit (i - tz x - 1) <;> simp [h1, h2]
    · simp [h1, h2]

theorem bitsL_zero : bitsL 0#64 = [] := by
  unfold bitsL
  rw [List.filter_eq_nil_iff]
  intro i _; simp

theorem range_split (n : Nat) (p q : Nat → Bool) (k : Nat) (hk : k < n) (hlow : ∀ i, i < k → p i = false) (hp : p k = true) (hq : ∀ i, q i = (p i && !decide (i = k))) :
    (List.range n).filter p = k :: (List.range n).filter q := by
  have e : List.range n = List.range k ++ (k :: (List.range n).drop (k + 1)) := by
    have := List.take_append_drop k (List.range n)
    rw [List.take_range, Nat.min_eq_left (by omega), List.drop_eq_getElem_cons (by simpa using hk)] at this
    simpa using this.symm
  have hd : ∀ i ∈ (List.range n).drop (k + 1), k < i := by
    intro i hi
    rw [List.mem_iff_getElem] at hi
    obtain ⟨j, hj, rfl⟩ := hi
    simp; omega
  have f1 : (List.range k).filter p = [] := by
    rw [List.filter_eq_nil_iff]
    intro i hi; rw [hlow i (List.mem_range.1 hi)]; simp
  have f2 : (List.range k).filter q = [] := by
    rw [List.filter_eq_nil_iff]
    intro i hi; rw [hq, hlow i (List.mem_range.1 hi)]; simp
  have f3 : ((List.range n).drop (k + 1)).filter q = ((List.range n).drop (k + 1)).filter p := by
    refine List.filter_congr fun i hi => ?_
    have := hd i hi
    rw [hq]
    have : ¬ i = k := by omega
    simp [this]
  rw [e, List.filter_append, List.filter_append, f1, f2, List.nil_append, List.nil_append, List.filter_cons, List.filter_cons, if_pos hp]
  have : q k = false := by rw [hq]; simp
  rw [this, if_neg (by simp), f3]

theorem bitsL_cons (x : BitVec 64) (h : x ≠ 0#64) : bitsL x = tz x :: bitsL (dropLow x) := by
  refine range_split 64 _ _ _ (tz_lt x h) ?_ (get_tz x h) (get_dropLow x h)
  intro i hi
  cases hb : x.getLsbD i with
  | false => rfl
  | true => have := get_low x h i hb; omega

theorem bitsL_mem (x : BitVec 64) (i : Nat) : i ∈ bitsL x ↔ x.getLsbD i = true := by
  unfold bitsL
  rw [List.mem_filter, List.mem_range]
  constructor
  · exact fun h => h.2
  · intro h
    refine ⟨?_, h⟩
    rcases Nat.lt_or_ge i 64 with h1 | h1
    · exact h1
    · rw [BitVec.getLsbD_of_ge _ _ h1] at h; cases h

theorem bitsL_len_le (x : BitVec 64) : (bitsL x).length ≤ 64 := by
  have := List.length_filter_le (fun i => x.getLsbD i) (List.range 64)
  simpa [bitsL] using this

theorem pop_filter : ∀ (n x k : Nat), pop n x = ((List.range' k n).filter fun i => x.testBit (i - k)).length
  | 0, _, _ => rfl
  | n + 1, x, k => by
    rw [List.range'_succ, List.filter_cons]
    have h0 : x.testBit (k - k) = decide (x % 2 = 1) := by rw [Nat.sub_self, Nat.testBit_zero]
    have ih := pop_filter n (x / 2) (k + 1)
    have e : (List.range' (k + 1) n).filter (fun i => x.testBit (i - k)) = (List.range' (k + 1) n).filter (fun i => (x / 2).testBit (i - (k + 1))) := by
      refine List.filter_congr fun i hi => ?_
      have := List.mem_range'_1.1 hi
      rw [show i - k = (i - (k + 1)) + 1 by omega, Nat.testBit_succ]
    rw [e, h0]
    simp only [pop]
    by_cases h : x % 2 = 1
    · simp [h, ih]; omega
    · have : x % 2 = 0 := by omega
      simp [this, ih]

theorem pop_bits (x : BitVec 64) : pop 64 x.toNat = (bitsL x).length := by
  rw [pop_filter 64 _ 0]
  unfold bitsL
  rw [List.range_eq_range']
  rfl

end Go.AM

/-
  math/bits.TrailingZeros64 and OnesCount64: their own text, walked. Own work.
-/
namespace Go.Proofs.YtocpkgckllbjlaaDoor
open Go.AM
set_option maxRecDepth 100000

/-- The table of math/bits as its initialiser lays it. -/
def TabAt (w : World) : Prop := ∀ j, j < 64 → w.cell? ⟨0, j, none⟩ = some (.int .u8 ((Go.Lib.deBruijn64tab.getD j 0 : Nat) : Int))

theorem TabAt.agree {S : Nat → Prop} {w w' : World} (h : TabAt w) (hA : Agree S w w') (hS : ¬ S 0) : TabAt w' := fun j hj => hA.cell (h j hj) hS

def tzI (x : BitVec 64) : Int := if x = 0#64 then 64 else (tz x : Int)

theorem neg_un (x : BitVec 64) : IntKind.u64.wrap (0 - un x) = un (-x) := by
  have := sub_un 0#64 x
  rw [show un 0#64 - un x = 0 - un x by simp [un]] at this
  rw [this]; simp

theorem low_bit (x : BitVec 64) (h : x ≠ 0#64) : x &&& -x = 1#64 <<< tz x := by
  have h0 : x.toNat ≠ 0 := fun e => h (BitVec.eq_of_toNat_eq (by simpa using e))
  obtain ⟨h1, h2⟩ := Go.Lib.lowest_bit 64 x.toNat h0 x.isLt
  have hk := tz_lt x h
  apply BitVec.eq_of_toNat_eq
  rw [BitVec.toNat_and, BitVec.toNat_neg, BitVec.toNat_shiftLeft]
  have h3 : (1#64).toNat = 1 := rfl
  rw [h3, Nat.shiftLeft_eq, Nat.one_mul, Nat.mod_eq_of_lt (show 2 ^ 64 - x.toNat < 2 ^ 64 by omega), h1]
  show 2 ^ tz x = _
  rw [Nat.mod_eq_of_lt (Nat.pow_lt_pow_right (by decide) hk)]

theorem tz_key (x : BitVec 64) (h : x ≠ 0#64) : ∃ idx : Nat, idx < 64 ∧ Go.Lib.deBruijn64tab.getD idx 0 = tz x ∧
    shrI .u64 (IntKind.u64.wrap (band .u64 (un x) (IntKind.u64.wrap (0 - un x)) * 285870213051353865)) 58 = (idx : Int) := by
  have hk := tz_lt x h
  obtain ⟨hi, htab⟩ := Go.Lib.deBruijn64_at (tz x) hk
  refine ⟨_, hi, htab, ?_⟩
  rw [neg_un, band_un, low_bit x h, show (285870213051353865 : Int) = un 285870213051353865#64 from rfl, mul_un, shr_un]
  unfold un
  rw [BitVec.toNat_ushiftRight, Nat.shiftRight_eq_div_pow, BitVec.toNat_mul, BitVec.toNat_shiftLeft, Nat.shiftLeft_eq]
  simp only [BitVec.toNat_ofNat, Nat.reducePow, Nat.reduceMod, Nat.one_mul, show Int.toNat 58 = 58 from rfl]
  have e : 2 ^ tz x % 18446744073709551616 = 2 ^ tz x := Nat.mod_eq_of_lt (by have := Nat.pow_lt_pow_right (a := 2) (by decide) hk; simpa using this)
  rw [e]

theorem tz_ok0 (w : World) : Gives Tryd.prog 72 [.int .u64 (un 0#64)] w (.int .i64 64) := by
  refine Gives.of_run Tryd.func72 rfl (by show 1 ≤ 14; decide) ?_
  refine RunF_sound tab_ok noX_local 100 [true] _ _ rfl ?_ ?_
  · simp [un]
  · exact Run.retP tab_ok Tryd.func72 rfl trivial (fun M => rfl)

theorem addr_idx (idx : Nat) : (⟨0, 0, none⟩ : Addr).add ((idx : Int).toNat * 1) = ⟨0, idx, none⟩ := by rw [add_lit']; simp

theorem tz_okp (y : Int) (idx : Nat) (k : Nat) (hy : y ≠ 0) (hi : idx < 64) (hk : k < 64) (w : World) (hc : w.cell? ⟨0, idx, none⟩ = some (.int .u8 (k : Int)))
    (key : shrI .u64 (IntKind.u64.wrap (band .u64 y (IntKind.u64.wrap (0 - y)) * 285870213051353865)) 58 = (idx : Int)) :
    Gives Tryd.prog 72 [.int .u64 y] w (.int .i64 (k : Int)) := by
  refine Gives.of_run Tryd.func72 rfl (by show 1 ≤ 14; decide) ?_
  refine RunF_sound tab_ok noX_local 100 [false] _ _ rfl ?_ ?_
  · rw [key, addr_idx, fnC_w0, hc]
    simp [hy]
    omega
  · rw [key, addr_idx, fnC_w0, hc]
    refine Run.retP tab_ok Tryd.func72 rfl trivial (fun M => ?_)
    simp only []
    rw [wrap_i64 (by omega) (by omega)]
    rfl

theorem tz_ok (x : BitVec 64) (w : World) (hT : TabAt w) : Gives Tryd.prog 72 [.int .u64 (un x)] w (.int .i64 (tzI x)) := by
  by_cases h : x = 0#64
  · subst h
    exact tz_ok0 w
  · obtain ⟨idx, hi, htab, key⟩ := tz_key x h
    have hc := hT idx hi
    rw [htab] at hc
    have := tz_okp (un x) idx (tz x) (by simpa using h) hi (tz_lt x h) w hc key
    rw [tzI, if_neg h]; exact this
theorem tz_enters : Enters Tryd.prog 72 := enters_mk Tryd.func72 (by decide) rfl

/-- What OnesCount64 reckons. -/
def onesW (x : BitVec 64) : BitVec 64 :=
  let a := (x >>> 1 &&& 6148914691236517205#64) + (x &&& 6148914691236517205#64)
  let b := (a >>> 2 &&& 3689348814741910323#64) + (a &&& 3689348814741910323#64)
  let c := (b >>> 4 + b) &&& 1085102592571150095#64
  let y := c + c >>> 8
  let z := y + y >>> 16
  z + z >>> 32

theorem onesW_pop (x : BitVec 64) : (onesW x).toNat % 128 = (bitsL x).length := by
  rw [← pop_bits, ← pop_swar x.toNat x.isLt]
  unfold onesW
  simp only [BitVec.toNat_add, BitVec.toNat_and, BitVec.toNat_ushiftRight, Nat.shiftRight_eq_div_pow, BitVec.toNat_ofNat, Nat.reducePow, Nat.reduceMod]

theorem band127 (z : BitVec 64) : band .i64 (IntKind.i64.wrap (un z)) 127 = ((z.toNat % 128 : Nat) : Int) := by
  have e1 : BitVec.ofInt 64 (IntKind.i64.wrap (un z)) = z := by
    apply BitVec.eq_of_toNat_eq
    have := z.isLt
    rw [BitVec.toNat_ofInt]
    simp only [IntKind.wrap, IntKind.bits, IntKind.signed, un]
    simp
    omega
  show IntKind.i64.wrap ((BitVec.ofInt 64 (IntKind.i64.wrap (un z)) &&& BitVec.ofInt 64 127).toNat : Int) = _
  rw [e1, BitVec.toNat_and, show (BitVec.ofInt 64 127).toNat = 2 ^ 7 - 1 from rfl, Nat.and_two_pow_sub_one_eq_mod]
  have := Nat.mod_lt z.toNat (show 0 < 2 ^ 7 by decide)
  simp only [Nat.reducePow] at this ⊢
  rw [wrap_i64] <;> omega

theorem ones_ok (x : BitVec 64) (w : World) : Gives Tryd.prog 73 [.int .u64 (un x)] w (.int .i64 ((bitsL x).length : Int)) := by
  refine Gives.of_run Tryd.func73 rfl (by show 1 ≤ 35; decide) ?_
  refine RunF_sound tab_ok noX_local 100 [] _ _ rfl ?_ ?_
  · simp
  · refine Run.retP tab_ok Tryd.func73 rfl trivial (fun M => ?_)
    show Value.int _ _ = _
    congr 1
    have c1 : (6148914691236517205 : Int) = un 6148914691236517205#64 := rfl
    have c2 : (3689348814741910323 : Int) = un 3689348814741910323#64 := rfl
    have c3 : (1085102592571150095 : Int) = un 1085102592571150095#64 := rfl
    rw [c1, c2, c3]
    simp only [shr_un, band_un, add_un]
    rw [← onesW_pop]
    exact band127 (onesW x)
theorem ones_enters : Enters Tryd.prog 73 := enters_mk Tryd.func73 (by decide) rfl
end Go.Proofs.YtocpkgckllbjlaaDoor
